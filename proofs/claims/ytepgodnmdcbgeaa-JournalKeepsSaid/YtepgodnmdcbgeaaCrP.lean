/-
The abstract layer, part 16: regions that draw their order: all orders, reckoned; an operation that nothing before it can change is taken first.
No statement of the program; no condition.
-/
import Derived.Test.YtepgodnmdcbgeaaCrO
import Derived.OrdersIn

namespace Go.Cr
open Go Go.RowKit

/-! ### Lists of numbers -/

def memN (i : Nat) : List Nat → Bool
  | [] => false
  | j :: l => match Nat.beq i j with
    | true => true
    | false => memN i l
def rmN (i : Nat) : List Nat → List Nat
  | [] => []
  | j :: l => match Nat.beq i j with
    | true => rmN i l
    | false => j :: rmN i l

theorem memN_iff {i : Nat} : ∀ {l : List Nat}, memN i l = true ↔ i ∈ l
  | [] => by simp [memN]
  | j :: l => by
    simp only [memN, List.mem_cons]
    split
    · rename_i h; have := Nat.eq_of_beq_eq_true h; simp [this]
    · rename_i h; rw [memN_iff]
      have : i ≠ j := fun e => by subst e; rw [Nat.beq_refl] at h; cases h
      simp [this]
theorem memN_not {i : Nat} {l : List Nat} : memN i l = false ↔ i ∉ l := by
  rw [← memN_iff]; simp
theorem mem_rmN {i x : Nat} : ∀ {l : List Nat}, x ∈ rmN i l ↔ x ∈ l ∧ x ≠ i
  | [] => by simp [rmN]
  | j :: l => by
    simp only [rmN, List.mem_cons]
    split
    · rename_i h; have := Nat.eq_of_beq_eq_true h; subst this; rw [mem_rmN]; constructor
      · rintro ⟨a, b⟩; exact ⟨.inr a, b⟩
      · rintro ⟨a | a, b⟩
        · exact absurd a b
        · exact ⟨a, b⟩
    · rename_i h
      have : i ≠ j := fun e => by subst e; rw [Nat.beq_refl] at h; cases h
      rw [List.mem_cons, mem_rmN]; constructor
      · rintro (rfl | ⟨a, b⟩)
        · exact ⟨.inl rfl, this.symm⟩
        · exact ⟨.inr a, b⟩
      · rintro ⟨rfl | a, b⟩
        · exact .inl rfl
        · exact .inr ⟨a, b⟩
theorem rmN_comm (i j : Nat) : ∀ l : List Nat, rmN i (rmN j l) = rmN j (rmN i l)
  | [] => rfl
  | k :: l => by
    simp only [rmN]
    cases h1 : Nat.beq j k <;> cases h2 : Nat.beq i k <;> simp only [rmN, h1, h2, rmN_comm i j l]

/-! ### All orders -/

/-- What binds an operation is done. -/
def freeE (rest : List Nat) : List Edge → Bool
  | [] => true
  | e :: l => match Region.binds .any e with
    | true => match memN e.on rest with
      | true => false
      | false => freeE rest l
    | false => freeE rest l

theorem freeE_iff {rest : List Nat} : ∀ {l : List Edge}, freeE rest l = true ↔ ∀ e ∈ l, Region.binds .any e = true → e.on ∉ rest
  | [] => by simp [freeE]
  | e :: l => by
    simp only [freeE, List.mem_cons, forall_eq_or_imp]
    split
    · rename_i hb
      split
      · rename_i hm; simp [hb, memN_iff.1 hm]
      · rename_i hm; rw [freeE_iff]; simp [hb, memN_not.1 hm]
    · rename_i hb; rw [freeE_iff]; simp [hb]

def rdy (all : List Oper) (rest : List Nat) (i : Nat) : Bool :=
  match memN i rest with
  | true => match nth all i with
    | some o => freeE rest o.after.toList
    | none => false
  | false => false

section
variable (T : Tab) (P : Program) (n : Nat) (all : List Oper)

def stepS (o : Oper) (e : Env) (σ : Store) (Φ : Env → Store → Prop) : Prop :=
  guardE all o.guard e (∃ K : AV → Store → Prop, stepOp T P o.op o.type e σ K ∧ ∀ a σ', K a σ' → putE n o.dst a e fun e' => Φ e' σ') (putE n o.dst .top e fun e' => Φ e' σ)

def anyA (K : Env → Store → Prop) : Nat → List Nat → Env → Store → Prop
  | 0, rest, e, σ => rest = [] ∧ K e σ
  | f + 1, rest, e, σ => (rest = [] → K e σ) ∧ ∀ i o, nth all i = some o → rdy all rest i = true → stepS T P n all o e σ (anyA K f (rmN i rest))
end

variable {P : Program} {T : Tab} {n : Nat} {all : List Oper}

/-- Two environments that say the same. -/
def EqE (e e' : Env) : Prop := ∀ d, look e d = look e' d
theorem EqE.refl (e : Env) : EqE e e := fun _ => rfl
theorem EqE.symm {e e' : Env} (h : EqE e e') : EqE e' e := fun d => (h d).symm
theorem EqE.trans {e e' e'' : Env} (h : EqE e e') (k : EqE e' e'') : EqE e e'' := fun d => (h d).trans (k d)
theorem EqE.cons {e e' : Env} (h : EqE e e') (d : Nat) (a : AV) : EqE ((d, a) :: e) ((d, a) :: e') := fun i => by simp only [look, h i]
theorem EqE.swap {d d' : Nat} (hd : d ≠ d') (a a' : AV) (e : Env) : EqE ((d, a) :: (d', a') :: e) ((d', a') :: (d, a) :: e) := fun i => by
  by_cases h : d = i
  · subst h; rw [look_cons_eq, look_cons_ne (Ne.symm hd), look_cons_eq]
  · rw [look_cons_ne h]
    by_cases h' : d' = i
    · subst h'; rw [look_cons_eq, look_cons_eq]
    · rw [look_cons_ne h', look_cons_ne h', look_cons_ne h]
theorem EqE.V {e e' : Env} (h : EqE e e') (x : Operand) : V e x = V e' x := by cases x <;> simp only [Cr.V, h _]

theorem putE_env {d : Option Tmp} {a : AV} {e e' : Env} {K K' : Env → Prop} (h : EqE e e') (hk : ∀ e e', EqE e e' → K e → K' e') (hp : putE n d a e K) : putE n d a e' K' := by
  cases d with
  | none => exact hk _ _ h hp
  | some d =>
    simp only [putE] at hp ⊢
    split at hp
    · exact hk _ _ (h.cons _ _) hp
    · exact hp.elim

theorem bcase_mono {b : Bool} {y n' y' n'' : Prop} (hy : y → y') (hn : n' → n'') (h : bcase b y n') : bcase b y' n'' := by
  cases b
  · exact hn h
  · exact hy h

theorem guardE_mono {g : Option (Nat × Bool)} {e : Env} {y n' y' n'' : Prop} (hy : y → y') (hn : n' → n'') (h : guardE all g e y n') : guardE all g e y' n'' := by
  unfold guardE at h ⊢
  cases g with
  | none => exact hy h
  | some g =>
    obtain ⟨j, want⟩ := g
    dsimp only at h ⊢
    cases hj : nth all j with
    | none => rw [hj] at h; exact h.elim
    | some o =>
      rw [hj] at h
      dsimp only at h ⊢
      cases hd : o.dst with
      | none => rw [hd] at h; exact h.elim
      | some d =>
        rw [hd] at h
        dsimp only at h ⊢
        split at h
        · cases want
          · exact bcase_mono hn hy h
          · exact bcase_mono hy hn h
        · exact h.elim

theorem guardE_env {g : Option (Nat × Bool)} {e e' : Env} {y n' : Prop} (he : ∀ j b o d, g = some (j, b) → nth all j = some o → o.dst = some d → look e d = look e' d) (h : guardE all g e y n') : guardE all g e' y n' := by
  unfold guardE at h ⊢
  cases g with
  | none => exact h
  | some g =>
    obtain ⟨j, want⟩ := g
    dsimp only at h ⊢
    cases hj : nth all j with
    | none => rw [hj] at h; exact h.elim
    | some o =>
      rw [hj] at h
      dsimp only at h ⊢
      cases hd : o.dst with
      | none => rw [hd] at h; exact h.elim
      | some d =>
        rw [hd] at h
        dsimp only at h ⊢
        rw [← he j want o d rfl hj hd]; exact h

theorem stepS_env {o : Oper} {e e' : Env} {σ : Store} {Φ Φ' : Env → Store → Prop} (h : EqE e e') (hΦ : ∀ e e' σ, EqE e e' → Φ e σ → Φ' e' σ) (hs : stepS T P n all o e σ Φ) : stepS T P n all o e' σ Φ' := by
  unfold stepS at hs ⊢
  refine guardE_env (fun _ _ _ d _ _ _ => h d) (guardE_mono ?_ ?_ hs)
  · rintro ⟨K, h1, h2⟩
    exact ⟨K, stepOp_env (fun x _ => h.V x) h1, fun a σ' hk => putE_env h (fun e e' => hΦ e e' σ') (h2 a σ' hk)⟩
  · exact putE_env h fun e e' => hΦ e e' σ

theorem anyA_env {K : Env → Store → Prop} (hK : ∀ e e' σ, EqE e e' → K e σ → K e' σ) : ∀ (f : Nat) (rest : List Nat) (e e' : Env) (σ : Store), EqE e e' → anyA T P n all K f rest e σ → anyA T P n all K f rest e' σ
  | 0, _, _, _, _, h, ha => ⟨ha.1, hK _ _ _ h ha.2⟩
  | f + 1, _, _, _, _, h, ha => ⟨fun hr => hK _ _ _ h (ha.1 hr), fun i o hi hr => stepS_env h (fun e1 e2 σ' h' => anyA_env hK f _ e1 e2 σ' h') (ha.2 i o hi hr)⟩

/-! ### One taken first -/

def menT (d : Nat) : List Operand → Bool
  | [] => false
  | .tmp t :: l => match Nat.beq t d with
    | true => true
    | false => menT d l
  | _ :: l => menT d l

theorem menT_not {d : Nat} : ∀ {l : List Operand}, menT d l = false → ∀ x ∈ l, x ≠ .tmp d
  | [], _ => by simp
  | .tmp t :: l, h => by
    simp only [menT] at h
    split at h
    · cases h
    · rename_i hb
      intro x hx
      rcases List.mem_cons.1 hx with rfl | hx
      · intro e; injection e with e; subst e; rw [Nat.beq_refl] at hb; cases hb
      · exact menT_not h x hx
  | .const v :: l, h | .global v :: l, h | .func v :: l, h => by
    intro x hx
    rcases List.mem_cons.1 hx with rfl | hx
    · intro e; cases e
    · exact menT_not (by simpa [menT] using h) x hx

theorem V_cons_of {d : Nat} {a : AV} {e : Env} {x : Operand} (h : x ≠ .tmp d) : V ((d, a) :: e) x = V e x := by
  cases x with
  | tmp t => exact look_cons_ne (fun e => h (by rw [e])) _ _
  | _ => rfl

def dstIs (d : Nat) : Option Tmp → Bool
  | some t => Nat.beq t d
  | none => false
theorem dstIs_not {d : Nat} {o : Option Tmp} (h : dstIs d o = false) : o ≠ some d := by
  intro e; subst e; simp [dstIs, Nat.beq_refl] at h

def grdIs (all : List Oper) (d : Nat) : Option (Nat × Bool) → Bool
  | none => false
  | some (j, _) => match nth all j with
    | some o => dstIs d o.dst
    | none => false

/-- k has nothing to do with the operation oi. c: whether oi reads the store (2). -/
def aloneN (all : List Oper) (oi : Oper) (c : Nat) (k : Nat) : Bool :=
  match nth all k with
  | some ok =>
    match (match oi.dst with
      | none => false
      | some d => menT d ok.op.operands.toList || dstIs d ok.dst || grdIs all d ok.guard) with
    | true => false
    | false => match (match ok.dst with
        | none => false
        | some d => menT d oi.op.operands.toList) with
      | true => false
      | false => match c with
        | 1 => true
        | _ => still ok.op
  | none => true

def hasE (D : List Nat) : List Edge → Bool
  | [] => false
  | e :: l => match Region.binds .any e with
    | true => match memN e.on D with
      | true => true
      | false => hasE D l
    | false => hasE D l
theorem hasE_ex {D : List Nat} : ∀ {l : List Edge}, hasE D l = true → ∃ e ∈ l, Region.binds .any e = true ∧ e.on ∈ D
  | [], h => by simp [hasE] at h
  | e :: l, h => by
    simp only [hasE] at h
    split at h
    · rename_i hb
      split at h
      · rename_i hm; exact ⟨e, List.mem_cons_self, hb, memN_iff.1 hm⟩
      · obtain ⟨e', h1, h2⟩ := hasE_ex h; exact ⟨e', List.mem_cons_of_mem _ h1, h2⟩
    · obtain ⟨e', h1, h2⟩ := hasE_ex h; exact ⟨e', List.mem_cons_of_mem _ h1, h2⟩

/-- What is behind i by the edges. -/
def clos (all : List Oper) : List Nat → List Nat → List Nat
  | [], D => D
  | k :: l, D => match nth all k with
    | some o => match hasE D o.after.toList with
      | true => clos all l (k :: D)
      | false => clos all l D
    | none => clos all l D

def allN (p : Nat → Bool) : List Nat → Bool
  | [] => true
  | i :: l => match p i with
    | true => allN p l
    | false => false
theorem allN_iff {p : Nat → Bool} : ∀ {l : List Nat}, allN p l = true ↔ ∀ i ∈ l, p i = true
  | [] => by simp [allN]
  | i :: l => by
    simp only [allN, List.mem_cons, forall_eq_or_imp]
    split
    · rename_i h; rw [allN_iff]; simp [h]
    · rename_i h; simp [h]

def closedN (all : List Oper) (i : Nat) (D : List Nat) (k : Nat) : Bool :=
  match Nat.beq k i with
  | true => true
  | false => match nth all k with
    | some o => hasE D o.after.toList
    | none => false

/-- The operation i may be taken first. -/
def porN (all : List Oper) (rest : List Nat) (i : Nat) (oi : Oper) (c : Nat) (D : List Nat) : Bool :=
  match rdy all rest i with
  | true => match memN i D with
    | true => match allN (fun k => memN k rest) D with
      | true => match allN (closedN all i D) D with
        | true => allN (fun k => match memN k D with
          | true => true
          | false => aloneN all oi c k) rest
        | false => false
      | false => false
    | false => false
  | false => false

def plusE (d : Option Tmp) (a : AV) (e : Env) : Env :=
  match d with
  | none => e
  | some d => (d, a) :: e

theorem putE_plus {d : Option Tmp} {a : AV} {e : Env} {K : Env → Prop} : putE n d a e K ↔ (∀ t, d = some t → t < n) ∧ K (plusE d a e) := by
  cases d with
  | none => simp [putE, plusE]
  | some d =>
    simp only [putE, plusE]
    cases h : Nat.blt d n with
    | true => simp [Nat.le_of_ble_eq_true h |> Nat.lt_of_succ_le]
    | false =>
      simp only [false_iff, not_and, Option.some.injEq, forall_eq']
      intro hlt
      have : Nat.blt d n = true := Nat.ble_eq_true_of_le hlt
      rw [h] at this; cases this

theorem por {K : Env → Store → Prop} (hK : ∀ e e' σ, EqE e e' → K e σ → K e' σ) {i : Nat} {oi : Oper} {D : List Nat} {c : Nat} {a : AV} (hoi : nth all i = some oi) (hg : oi.guard = none)
    (hiD : i ∈ D) (hcl : ∀ k ∈ D, closedN all i D k = true) (hdst : ∀ t, oi.dst = some t → t < n) :
    ∀ (f : Nat) (rest : List Nat) (e : Env) (σ : Store), (∀ k ∈ D, k ∈ rest) → freeE rest oi.after.toList = true → (∀ k ∈ rest, k ∈ D ∨ aloneN all oi c k = true) →
      (c = 1 → ∀ σ' (K' : AV → Store → Prop), K' a σ' → stepOp T P oi.op oi.type e σ' K') → (∀ K' : AV → Store → Prop, K' a σ → stepOp T P oi.op oi.type e σ K') →
      anyA T P n all K f (rmN i rest) (plusE oi.dst a e) σ → anyA T P n all K (f + 1) rest e σ := by
  intro f
  induction f with
  | zero =>
    intro rest e σ hD hfr hal v1 v2 h
    refine ⟨fun hr => by rw [hr] at hD; simpa using hD i hiD, fun j oj hj hr => ?_⟩
    by_cases hji : j = i
    · subst hji
      rw [hoi] at hj; injection hj with hj; subst hj
      unfold stepS; rw [hg]
      exact ⟨fun a' σ' => putE n oi.dst a' e fun e' => anyA T P n all K 0 (rmN j rest) e' σ', v2 _ (putE_plus.2 ⟨hdst, h⟩), fun _ _ h => h⟩
    · have hjr : j ∈ rest := by
        unfold rdy at hr; split at hr
        · rename_i hm; exact memN_iff.1 hm
        · cases hr
      have : j ∈ rmN i rest := mem_rmN.2 ⟨hjr, hji⟩
      rw [h.1] at this; cases this
  | succ f ih =>
    intro rest e σ hD hfr hal v1 v2 h
    refine ⟨fun hr => by rw [hr] at hD; simpa using hD i hiD, fun j oj hj hr => ?_⟩
    by_cases hji : j = i
    · subst hji
      rw [hoi] at hj; injection hj with hj; subst hj
      unfold stepS; rw [hg]
      exact ⟨fun a' σ' => putE n oi.dst a' e fun e' => anyA T P n all K (f + 1) (rmN j rest) e' σ', v2 _ (putE_plus.2 ⟨hdst, h⟩), fun _ _ h => h⟩
    · have hjr : j ∈ rest ∧ freeE rest oj.after.toList = true := by
        unfold rdy at hr; split at hr
        · rename_i hm; rw [hj] at hr; exact ⟨memN_iff.1 hm, hr⟩
        · cases hr
      have hjD : j ∉ D := fun hjD => by
        have := hcl j hjD
        unfold closedN at this
        split at this
        · rename_i hb; exact hji (Nat.eq_of_beq_eq_true hb)
        · rw [hj] at this
          obtain ⟨ed, e1, e2, e3⟩ := hasE_ex this
          exact freeE_iff.1 hjr.2 ed e1 e2 (hD _ e3)
      have hal' := (hal j hjr.1).resolve_left hjD
      unfold aloneN at hal'
      rw [hj] at hal'
      dsimp only at hal'
      split at hal'
      case h_1 => cases hal'
      rename_i hA
      split at hal'
      case h_1 => cases hal'
      rename_i hB
      have hrd : rdy all (rmN i rest) j = true := by
        unfold rdy
        rw [memN_iff.2 (mem_rmN.2 ⟨hjr.1, hji⟩), hj]
        exact freeE_iff.2 fun ed h1 h2 h3 => freeE_iff.1 hjr.2 ed h1 h2 (mem_rmN.1 h3).1
      have hs := h.2 j oj hj hrd
      have hV : ∀ x ∈ oj.op.operands.toList, V (plusE oi.dst a e) x = V e x := by
        intro x hx
        unfold plusE
        split
        · rfl
        · rename_i d hd
          rw [hd] at hA
          simp only [Bool.or_eq_false_iff] at hA
          exact V_cons_of (menT_not hA.1.1 x hx)
      have hsw : ∀ (b : AV), EqE (plusE oj.dst b (plusE oi.dst a e)) (plusE oi.dst a (plusE oj.dst b e)) := by
        intro b
        unfold plusE
        cases hd : oi.dst with
        | none => exact .refl _
        | some d =>
          rw [hd] at hA
          simp only [Bool.or_eq_false_iff] at hA
          cases hd' : oj.dst with
          | none => exact .refl _
          | some d' =>
            rw [hd'] at hA
            exact .swap (fun e => dstIs_not hA.1.2 (by rw [e])) _ _ _
      have hVi : ∀ (b : AV), ∀ x ∈ oi.op.operands.toList, V e x = V (plusE oj.dst b e) x := by
        intro b x hx
        unfold plusE
        split
        · rfl
        · rename_i d hd
          rw [hd] at hB
          exact (V_cons_of (menT_not hB x hx)).symm
      have next : ∀ (b : AV) (σ' : Store), (c = 1 ∨ σ' = σ) → putE n oj.dst b (plusE oi.dst a e) (fun e' => anyA T P n all K f (rmN j (rmN i rest)) e' σ') → putE n oj.dst b e fun e' => anyA T P n all K (f + 1) (rmN j rest) e' σ' := by
        intro b σ' hc hp
        obtain ⟨p1, p2⟩ := putE_plus.1 hp
        refine putE_plus.2 ⟨p1, ih _ _ _ (fun k hk => mem_rmN.2 ⟨hD k hk, fun e => hjD (e ▸ hk)⟩) (freeE_iff.2 fun ed h1 h2 h3 => freeE_iff.1 hfr ed h1 h2 (mem_rmN.1 h3).1) (fun k hk => hal k (mem_rmN.1 hk).1) ?_ ?_ ?_⟩
        · intro hc σ'' K' hk
          exact stepOp_env (hVi b) (v1 hc σ'' K' hk)
        · intro K' hk
          rcases hc with hc | hc
          · exact stepOp_env (hVi b) (v1 hc σ' K' hk)
          · subst hc; exact stepOp_env (hVi b) (v2 K' hk)
        · rw [rmN_comm]
          exact anyA_env hK _ _ _ _ _ (hsw b) p2
      unfold stepS at hs ⊢
      refine guardE_env (e := plusE oi.dst a e) ?_ (guardE_mono ?_ ?_ hs)
      · intro j' b' o' d' h1 h2 h3
        unfold plusE
        split
        · rfl
        · rename_i d hd
          rw [hd] at hA
          simp only [Bool.or_eq_false_iff] at hA
          have := hA.2
          unfold grdIs at this
          rw [h1] at this
          dsimp only at this
          rw [h2] at this
          have h4 := dstIs_not this
          exact look_cons_ne (fun e => h4 (by rw [h3, e])) _ _
      · rintro ⟨K0, k1, k2⟩
        refine ⟨fun b σ' => (c = 1 ∨ σ' = σ) ∧ K0 b σ', ?_, fun b σ' hk => next b σ' hk.1 (k2 b σ' hk.2)⟩
        have k1' := stepOp_env hV k1
        split at hal'
        · have : K0 = fun b σ' => ((1 : Nat) = 1 ∨ σ' = σ) ∧ K0 b σ' := by funext b σ'; simp
          rw [← this]; exact k1'
        · rename_i hc1
          have : (fun b σ' => σ' = σ ∧ K0 b σ') = fun b σ' => (c = 1 ∨ σ' = σ) ∧ K0 b σ' := by
            funext b σ'
            have : c ≠ 1 := hc1
            simp [this]
          rw [← this]
          exact stepOp_still hal' k1'
      · exact next _ _ (.inr rfl)

end Go.Cr
