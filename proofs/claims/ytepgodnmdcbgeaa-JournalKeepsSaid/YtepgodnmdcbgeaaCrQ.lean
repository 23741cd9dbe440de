/-
The abstract layer, part 17: a region that draws its order, reckoned by a program; that is sound.
No statement of the program; no condition.
-/
import Derived.Test.YtepgodnmdcbgeaaCrP

namespace Go.Cr
open Go Go.RowKit

section
variable (T : Tab) (P : Program) (n : Nat) (all : List Oper)

def pickOk (e : Env) (rest : List Nat) (i : Nat) : Bool :=
  match nth all i with
  | some oi => match oi.guard with
    | some _ => false
    | none => match cls e oi.op with
      | 0 => false
      | c => porN all rest i oi c (clos all rest [i])
  | none => false

def pick (e : Env) (rest : List Nat) : List Nat → Option Nat
  | [] => none
  | i :: l => match pickOk all e rest i with
    | true => some i
    | false => pick e rest l

def rdyL (rest : List Nat) : List Nat → List Nat
  | [] => []
  | i :: l => match rdy all rest i with
    | true => i :: rdyL rest l
    | false => rdyL rest l

def allP (p : Nat → Prop) : List Nat → Prop
  | [] => True
  | [i] => p i
  | i :: l => p i ∧ allP p l

def drawA (K : Env → Store → Prop) : Nat → List Nat → Env → Store → Prop
  | 0, rest, e, σ => match rest with
    | [] => K e σ
    | _ => False
  | f + 1, rest, e, σ => match rest with
    | [] => K e σ
    | i :: l => match pick all e (i :: l) (i :: l) with
      | some j => match nth all j with
        | some o => stepOp T P o.op o.type e σ fun a σ' => putE n o.dst a e fun e' => drawA K f (rmN j (i :: l)) e' σ'
        | none => False
      | none => allP (fun j => match nth all j with
          | some o => guardE all o.guard e (stepOp T P o.op o.type e σ fun a σ' => putE n o.dst a e fun e' => drawA K f (rmN j (i :: l)) e' σ')
              (putE n o.dst .top e fun e' => drawA K f (rmN j (i :: l)) e' σ)
          | none => False) (rdyL all (i :: l) (i :: l))
end

variable {P : Program} {T : Tab} {n : Nat} {all : List Oper}

/-- What is reckoned for an environment holds for one that says the same. -/
def KE (K : Env → Store → Prop) : Env → Store → Prop := fun e σ => ∃ e1, EqE e1 e ∧ K e1 σ
theorem KE.env (K : Env → Store → Prop) : ∀ e e' σ, EqE e e' → KE K e σ → KE K e' σ := fun _ _ _ h ⟨e1, h1, h2⟩ => ⟨e1, h1.trans h, h2⟩

theorem allP_mem {p : Nat → Prop} : ∀ {l : List Nat}, allP p l → ∀ i ∈ l, p i
  | [], _, _, h => by cases h
  | [i], h, j, hj => by
    rw [List.mem_singleton] at hj; subst hj; exact h
  | i :: k :: l, h, j, hj => by
    rcases List.mem_cons.1 hj with rfl | hj
    · exact h.1
    · exact allP_mem h.2 j hj

theorem mem_rdyL {rest : List Nat} {i : Nat} : ∀ {l : List Nat}, i ∈ l → rdy all rest i = true → i ∈ rdyL all rest l
  | [], h, _ => by cases h
  | j :: l, h, hr => by
    simp only [rdyL]
    rcases List.mem_cons.1 h with rfl | h
    · rw [hr]; exact List.mem_cons_self
    · split
      · exact List.mem_cons_of_mem _ (mem_rdyL h hr)
      · exact mem_rdyL h hr

theorem pick_ok {e : Env} {rest : List Nat} {j : Nat} : ∀ {l : List Nat}, pick all e rest l = some j → pickOk all e rest j = true
  | [], h => by cases h
  | i :: l, h => by
    simp only [pick] at h
    split at h
    · rename_i hp; injection h with h; subst h; exact hp
    · exact pick_ok h

theorem drawA_any {K : Env → Store → Prop} : ∀ (f : Nat) (rest : List Nat) (e : Env) (σ : Store), drawA T P n all K f rest e σ → anyA T P n all (KE K) f rest e σ
  | 0, rest, e, σ, h => by
    cases rest with
    | nil => exact ⟨rfl, e, .refl _, h⟩
    | cons i l => exact h.elim
  | f + 1, rest, e, σ, h => by
    cases rest with
    | nil =>
      refine ⟨fun _ => ⟨e, .refl _, h⟩, fun i o _ hr => ?_⟩
      unfold rdy at hr
      simp [memN] at hr
    | cons i l =>
      simp only [drawA] at h
      split at h
      · rename_i j hj
        have hp := pick_ok hj
        unfold pickOk at hp
        split at h
        case h_2 => exact h.elim
        rename_i o ho
        rw [ho] at hp
        dsimp only at hp
        split at hp
        · cases hp
        · rename_i hg
          split at hp
          · cases hp
          · rename_i c hc
            unfold porN at hp
            split at hp
            case h_2 => cases hp
            rename_i hrd
            split at hp
            case h_2 => cases hp
            rename_i hiD
            split at hp
            case h_2 => cases hp
            rename_i hDr
            split at hp
            case h_2 => cases hp
            rename_i hcl
            have hfr : freeE (i :: l) o.after.toList = true := by
              unfold rdy at hrd
              split at hrd
              · rw [ho] at hrd; exact hrd
              · cases hrd
            have hval : ∃ a, (putE n o.dst a e fun e' => drawA T P n all K f (rmN j (i :: l)) e' σ) ∧ (cls e o.op = 1 → ∀ σ' (K' : AV → Store → Prop), K' a σ' → stepOp T P o.op o.type e σ' K') ∧ ∀ K' : AV → Store → Prop, K' a σ → stepOp T P o.op o.type e σ K' := by
              by_cases h1 : cls e o.op = 1
              · obtain ⟨a, p1, p2⟩ := stepOp_one h1 h
                exact ⟨a, p1, fun _ => p2, p2 σ⟩
              · by_cases h2 : cls e o.op = 2
                · obtain ⟨a, p1, p2⟩ := stepOp_two h2 h
                  exact ⟨a, p1, fun hh => absurd hh h1, p2⟩
                · exfalso
                  have : cls e o.op = 0 ∨ cls e o.op = 1 ∨ cls e o.op = 2 := by
                    unfold cls
                    repeat' split
                    all_goals simp
                  rcases this with h0 | h0 | h0
                  · exact hc h0
                  · exact h1 h0
                  · exact h2 h0
            obtain ⟨a, p1, p2, p3⟩ := hval
            obtain ⟨q1, q2⟩ := putE_plus.1 p1
            refine por (KE.env K) ho hg (memN_iff.1 hiD) (allN_iff.1 hcl) q1 f _ e σ (fun k hk => memN_iff.1 (allN_iff.1 hDr k hk)) hfr ?_ p2 p3 (drawA_any f _ _ _ q2)
            intro k hk
            have := allN_iff.1 hp k hk
            split at this
            · rename_i hm; exact .inl (memN_iff.1 hm)
            · exact .inr this
      · refine ⟨fun hr => (by cases hr), fun j o ho hr => ?_⟩
        have hj : j ∈ i :: l := by
          unfold rdy at hr
          split at hr
          · rename_i hm; exact memN_iff.1 hm
          · cases hr
        have := allP_mem h j (mem_rdyL hj hr)
        rw [ho] at this
        refine guardE_mono (fun hs => ⟨_, hs, fun a σ' hk => ?_⟩) (fun hp => ?_) this
        · obtain ⟨q1, q2⟩ := putE_plus.1 hk
          exact putE_plus.2 ⟨q1, drawA_any f _ _ _ q2⟩
        · obtain ⟨q1, q2⟩ := putE_plus.1 hp
          exact putE_plus.2 ⟨q1, drawA_any f _ _ _ q2⟩

/-! ### In the machine -/

theorem stepS_sound (hT : TabOk P T) {ro : Option Nat} {B : Nat} {σ₀ : Store} {w₀ : World} {ops : Array Oper} {Q : Exit → Env → Store → Prop} {Φ : Env → Store → Prop} {i : Nat} {o : Oper} {Kc : Act → World → Prop}
    (hΦ : ∀ e' σ' a' w', Φ e' σ' → Rel σ' w' → FR σ' w' n e' a'.tmps → DF B σ' w' a'.defers → Step σ₀ w₀ σ' w' → Kc a' w') (ho : ops[i]? = some o) {e : Env} {σ : Store} {a : Act} {w : World}
    (h : stepS T P n ops.toList o e σ Φ) (hrel : Rel σ w) (hfr : FR σ w n e a.tmps) (hdf : DF B σ w a.defers) (hst : Step σ₀ w₀ σ w) : wpOpIn (Fen ro) 0 P ops (QC B n σ₀ w₀ Q) i Kc a w := by
  unfold wpOpIn
  rw [ho]
  dsimp only
  unfold stepS at h
  have yes : (∃ K : AV → Store → Prop, stepOp T P o.op o.type e σ K ∧ ∀ a σ', K a σ' → putE n o.dst a e fun e' => Φ e' σ') → o.wpIn (Fen ro) 0 P a w Kc (QC B n σ₀ w₀ Q) := by
    rintro ⟨K, hs, hk⟩
    refine ⟨fun _ _ => trivial, ?_⟩
    rw [Oper.semAt_eq _ _ _ (stepOp_noDefer hs)]
    refine lands_upon (stepOp_sound hT hrel hfr hs) ?_
    rintro v w' ⟨x, σ', hp, hv, hrel', hst'⟩
    obtain ⟨e', hr, hfr', hd'⟩ := putE_ok (hfr.step hst') hv (hk _ _ hp)
    exact hΦ e' σ' _ w' hr hrel' hfr' (by rw [hd']; exact hdf.step hst') (hst.trans hst')
  have no : putE n o.dst .top e (fun e' => Φ e' σ) → Kc (a.put o.dst undef) w := by
    intro hp
    obtain ⟨e', hr, hfr', hd'⟩ := putE_ok hfr (.top undef) hp
    exact hΦ e' σ _ w hr hrel hfr' (by rw [hd']; exact hdf) hst
  unfold guardE at h
  split at h
  · rename_i hg
    have : Region.wanted o (yielded ops a.tmps) = true := by simp [Region.wanted, hg]
    rw [if_pos this]
    exact yes h
  · rename_i j want hg
    split at h
    case h_2 => exact h.elim
    rename_i oj hj
    split at h
    case h_2 => exact h.elim
    rename_i d hd
    split at h
    case h_2 => exact h.elim
    rename_i b hb
    have hvr := hfr.2 d _ hb
    have hbool : a.tmps.getD d undefV = .bool b := hvr.val_inv
    have hj' : ops[j]? = some oj := by rw [nth_eq] at hj; simpa using hj
    have hy : yielded ops a.tmps j = some b := by
      simp only [yielded, hj', Option.bind_some, hd, getD_lt hbool]
    have hw : Region.wanted o (yielded ops a.tmps) = (b == want) := by
      simp only [Region.wanted, hg, hy]
      cases b <;> cases want <;> rfl
    rw [hw]
    cases want
    · rcases bcase_elim h with ⟨rfl, h⟩ | ⟨rfl, h⟩
      · rw [if_neg (by decide)]; exact ⟨fun _ _ => trivial, no h⟩
      · rw [if_pos (by decide)]; exact yes h
    · rcases bcase_elim h with ⟨rfl, h⟩ | ⟨rfl, h⟩
      · rw [if_pos (by decide)]; exact yes h
      · rw [if_neg (by decide)]; exact ⟨fun _ _ => trivial, no h⟩

/-- The edges point back. -/
def backE (i : Nat) : List Edge → Bool
  | [] => true
  | e :: l => match Region.binds .any e with
    | true => match Nat.blt e.on i with
      | true => backE i l
      | false => false
    | false => backE i l
def backL : Nat → List Oper → Bool
  | _, [] => true
  | i, o :: l => match backE i o.after.toList with
    | true => backL (i + 1) l
    | false => false

theorem backE_iff {i : Nat} : ∀ {l : List Edge}, backE i l = true → ∀ e ∈ l, Region.binds .any e = true → e.on < i
  | [], _ => by simp
  | e :: l, h => by
    simp only [backE] at h
    intro x hx hb
    split at h
    · split at h
      · rename_i hlt
        rcases List.mem_cons.1 hx with rfl | hx
        · exact Nat.lt_of_succ_le (Nat.le_of_ble_eq_true hlt)
        · exact backE_iff h x hx hb
      · cases h
    · rename_i hn
      rcases List.mem_cons.1 hx with rfl | hx
      · rw [hb] at hn; cases hn
      · exact backE_iff h x hx hb

theorem backL_iff : ∀ (l : List Oper) (k : Nat), backL k l = true → ∀ (i : Nat) (o : Oper), l[i]? = some o → ∀ e ∈ o.after.toList, Region.binds .any e = true → e.on < k + i
  | [], _, _, i, o, h => by simp at h
  | p :: l, k, hb, i, o, h => by
    simp only [backL] at hb
    split at hb
    case h_2 => cases hb
    rename_i hp
    cases i with
    | zero => simp at h; subst h; exact fun e he hbd => backE_iff hp e he hbd
    | succ i =>
      intro e he hbd
      have := backL_iff l (k + 1) hb i o (by simpa using h) e he hbd
      omega

structure Listed (ops : Array Oper) (listed : Array Bool) (rest : List Nat) : Prop where
  size : listed.size = ops.size
  lt : ∀ i ∈ rest, i < ops.size
  eq : ∀ i (h : i < listed.size), listed[i] = !memN i rest

theorem Listed.getD {ops : Array Oper} {listed : Array Bool} {rest : List Nat} (h : Listed ops listed rest) {i : Nat} (hi : i < ops.size) (d : Bool) : listed.getD i d = !memN i rest := by
  have : i < listed.size := by rw [h.size]; exact hi
  rw [Array.getD, dif_pos this]; exact h.eq i this

theorem Listed.ready {ops : Array Oper} {listed : Array Bool} {rest : List Nat} (h : Listed ops listed rest) (hb : backL 0 ops.toList = true) {i : Nat} :
    i ∈ Region.ready .any ops listed ↔ rdy ops.toList rest i = true := by
  unfold Region.ready rdy
  rw [List.mem_filter, List.mem_range]
  cases ho : ops[i]? with
  | none =>
    have : ¬ i < ops.size := by
      intro hlt; rw [Array.getElem?_eq_getElem hlt] at ho; cases ho
    have hm : memN i rest = false := memN_not.2 fun hm => this (h.lt i hm)
    simp [hm]
  | some o =>
    have hi : i < ops.size := by
      by_cases hi : i < ops.size
      · exact hi
      · rw [Array.getElem?_eq_none (Nat.le_of_not_lt hi)] at ho; cases ho
    have hn : nth ops.toList i = some o := by rw [nth_eq]; simpa using ho
    rw [h.getD hi, hn]
    have hon := backL_iff ops.toList 0 hb i o (by simpa using ho)
    cases hm : memN i rest with
    | false => simp
    | true =>
      simp only [Bool.not_true, Bool.not_false, Bool.true_and, Option.map_some, Option.getD_some, hi, true_and]
      rw [Array.all_eq_true, freeE_iff]
      constructor
      · intro hh ed hed hbd
        obtain ⟨k, hk, rfl⟩ := List.getElem_of_mem hed
        have := hh k (by simpa using hk)
        rw [Array.getElem_toList] at hbd hed
        rw [hbd] at this
        rw [h.getD (by have := hon _ hed hbd; omega)] at this
        simpa [memN_not] using this
      · intro hh k hk
        have hed : o.after[k] ∈ o.after.toList := by simp
        cases hbd : Region.binds .any o.after[k] with
        | false => rfl
        | true =>
          have h1 := hh _ hed hbd
          rw [h.getD (by have := hon _ hed hbd; omega), memN_not.2 h1]
          rfl

theorem Listed.put {ops : Array Oper} {listed : Array Bool} {rest : List Nat} (h : Listed ops listed rest) (i : Nat) : Listed ops (listed.setIfInBounds i true) (rmN i rest) := by
  refine ⟨by simpa using h.size, fun j hj => h.lt j (mem_rmN.1 hj).1, fun j hj => ?_⟩
  have hj0 : j < listed.size := by rw [Array.size_setIfInBounds] at hj; exact hj
  rw [Array.getElem_setIfInBounds hj0]
  split
  · rename_i e; subst e
    have : memN i (rmN i rest) = false := memN_not.2 fun hm => (mem_rmN.1 hm).2 rfl
    rw [this]; rfl
  · rename_i hne
    rw [h.eq j hj0]
    congr 1
    cases hm : memN j rest with
    | false => exact (memN_not.2 fun hx => memN_not.1 hm (mem_rmN.1 hx).1).symm
    | true => exact (memN_iff.2 (mem_rmN.2 ⟨memN_iff.1 hm, fun e => hne e.symm⟩)).symm

theorem ready_nil {ops : Array Oper} {listed : Array Bool} {rest : List Nat} (h : Listed ops listed rest) (hb : backL 0 ops.toList = true) (hr : Region.ready .any ops listed = []) : rest = [] := by
  have key : ∀ m, m ∈ rest → False := by
    intro m
    induction m using Nat.strongRecOn with
    | _ m ih =>
      intro hm
      have hlt := h.lt m hm
      have ho : ops[m]? = some ops[m] := by simp [hlt]
      have : rdy ops.toList rest m = true := by
        unfold rdy
        rw [memN_iff.2 hm, nth_eq]
        have : ops.toList[m]? = some ops[m] := by simp [hlt]
        rw [this]
        refine freeE_iff.2 fun ed h1 h2 h3 => ih ed.on ?_ h3
        have := backL_iff ops.toList 0 hb m _ this ed h1 h2
        omega
      have := (h.ready hb).2 this
      rw [hr] at this; cases this
  cases rest with
  | nil => rfl
  | cons i l => exact (key i List.mem_cons_self).elim

theorem anyA_sound (hT : TabOk P T) {ro : Option Nat} {B : Nat} {σ₀ : Store} {w₀ : World} {ops : Array Oper} (hb : backL 0 ops.toList = true) {Q : Exit → Env → Store → Prop} {K : Env → Store → Prop}
    (hQ : ∀ e' σ' (a' : Act) w', K e' σ' → Rel σ' w' → FR σ' w' n e' a'.tmps → DF B σ' w' a'.defers → Step σ₀ w₀ σ' w' → QC B n σ₀ w₀ Q .normal a' w') :
    ∀ (f : Nat) (rest : List Nat) (listed : Array Bool) (e : Env) (σ : Store) (a : Act) (w : World), Listed ops listed rest → anyA T P n ops.toList K f rest e σ → Rel σ w → FR σ w n e a.tmps → DF B σ w a.defers → Step σ₀ w₀ σ w →
      wpAnyIn (Fen ro) 0 P .any ops (QC B n σ₀ w₀ Q) f listed a w
  | 0, rest, listed, e, σ, a, w, hl, h, hrel, hfr, hdf, hst => by
    refine ⟨?_, hQ _ _ _ _ h.2 hrel hfr hdf hst⟩
    cases hr : Region.ready .any ops listed with
    | nil => rfl
    | cons i l =>
      have : i ∈ Region.ready .any ops listed := by rw [hr]; exact List.mem_cons_self
      have := (hl.ready hb).1 this
      unfold rdy at this
      rw [h.1] at this
      simp [memN] at this
  | f + 1, rest, listed, e, σ, a, w, hl, h, hrel, hfr, hdf, hst => by
    refine ⟨fun hr => hQ _ _ _ _ (h.1 (ready_nil hl hb hr)) hrel hfr hdf hst, fun i hi => ?_⟩
    have hr := (hl.ready hb).1 hi
    have : ∃ o, nth ops.toList i = some o := by
      unfold rdy at hr
      split at hr
      · split at hr
        · rename_i o ho; exact ⟨o, ho⟩
        · cases hr
      · cases hr
    obtain ⟨o, ho⟩ := this
    have ho' : ops[i]? = some o := by rw [nth_eq] at ho; simpa using ho
    refine stepS_sound hT ?_ ho' (h.2 i o ho hr) hrel hfr hdf hst
    intro e' σ' a' w' h1 h2 h3 h4 h5
    exact anyA_sound hT hb hQ f _ _ e' σ' a' w' (hl.put i) h1 h2 h3 h4 h5

def upN : Nat → Nat → List Nat
  | 0, _ => []
  | k + 1, i => i :: upN k (i + 1)
theorem mem_upN {x : Nat} : ∀ {k i : Nat}, x ∈ upN k i ↔ i ≤ x ∧ x < i + k
  | 0, i => by simp only [upN, List.not_mem_nil, false_iff]; omega
  | k + 1, i => by
    simp only [upN, List.mem_cons, mem_upN]; omega

/-- **A region that draws its order.** -/
theorem AW.draw (hT : TabOk P T) (hm : P.follows .mixedOrders = true) {ro : Option Nat} {id k : Nat} {ops : Array Oper} {Q : Exit → Env → Store → Prop} {e : Env} {σ : Store} (hk : ops.toList.length = k) (hb : backL 0 ops.toList = true)
    (h : drawA T P n ops.toList (fun e' σ' => Q .normal e' σ') k (upN k 0) e σ) : AW P ro n (.region id ops true) Q e σ := by
  have hk' : ops.size = k := by rw [← Array.length_toList]; exact hk
  refine ⟨fun B a w h1 h2 h3 h4 => wpIn_region_any hm ?_⟩
  rw [hk']
  have hs := Step.drew σ w
  refine anyA_sound hT hb (σ₀ := σ) (w₀ := w) (K := KE fun e' σ' => Q .normal e' σ') ?_ k (upN k 0) _ e σ a _ ?_ (drawA_any _ _ _ _ h) h2.drew (h3.step hs) (h4.step hs) hs
  · rintro e' σ' a' w' ⟨e1, q1, q2⟩ r1 r2 r3 r4
    exact ⟨e1, σ', q2, r1, r2.sub fun i x hx => by rw [← q1 i]; exact hx, r3, r4⟩
  · refine ⟨by simp [hk'], fun i hi => by have := mem_upN.1 hi; omega, fun i hi => ?_⟩
    have hi' : i < k := by simpa using hi
    rw [Array.getElem_replicate, memN_iff.2 (mem_upN.2 ⟨Nat.zero_le _, by omega⟩)]
    rfl

end Go.Cr
