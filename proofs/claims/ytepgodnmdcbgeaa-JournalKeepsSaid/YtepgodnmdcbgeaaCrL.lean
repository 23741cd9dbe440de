/-
The abstract layer, part 12: regions, code, functions, reckoned on abstract values; what is reckoned holds of the model's run.
No statement of the program; no condition.
-/
import Derived.Test.YtepgodnmdcbgeaaCrK
import Derived.RangeFuncLeaves
import Derived.RangeFuncRecord
import Derived.RangeFuncCalls
import Derived.Scope

namespace Go.Cr
open Go Go.RowKit

def Fen (ro : Option Nat) : Fence := { Fence.wide with round := ro }

/-- The marks among the deferred calls: blocks of the function's own, still shut. -/
def DF (B : Nat) (σ : Store) (w : World) (ds : List Deferred) : Prop :=
  ∃ Ds : List Nat, ds = Ds.map (fun D => ⟨.collected D, #[]⟩) ∧ Ds.Nodup ∧ ∀ D ∈ Ds, B ≤ D ∧ D < w.heap.size ∧ σ D = none ∧ w.heap[D]? = some (.deferred (some []))

theorem DF.step {B : Nat} {σ σ' : Store} {w w' : World} {ds : List Deferred} (hs : Step σ w σ' w') (h : DF B σ w ds) : DF B σ' w' ds := by
  obtain ⟨Ds, h1, h2, h3⟩ := h
  refine ⟨Ds, h1, h2, fun D hD => ?_⟩
  obtain ⟨a, b, c, d⟩ := h3 D hD
  obtain ⟨k1, k2⟩ := hs.keep D b c
  exact ⟨a, Nat.lt_of_lt_of_le b hs.size, k1, k2.trans d⟩

/-- What holds at a way out of code. -/
def QC (B n : Nat) (σ : Store) (w : World) (Q : Exit → Env → Store → Prop) (x : Exit) (a' : Act) (w' : World) : Prop :=
  ∃ e' σ', Q x e' σ' ∧ Rel σ' w' ∧ FR σ' w' n e' a'.tmps ∧ DF B σ' w' a'.defers ∧ Step σ w σ' w'

structure AW (P : Program) (ro : Option Nat) (n : Nat) (c : Code) (Q : Exit → Env → Store → Prop) (e : Env) (σ : Store) : Prop where
  out : ∀ (B : Nat) (a : Act) (w : World), B ≤ w.heap.size → Rel σ w → FR σ w n e a.tmps → DF B σ w a.defers → c.wpIn (Fen ro) 0 P (QC B n σ w Q) a w

/-! ### Regions -/

def putE (n : Nat) (d : Option Tmp) (a : AV) (e : Env) (K : Env → Prop) : Prop :=
  match d with
  | none => K e
  | some d => match Nat.blt d n with
    | true => K ((d, a) :: e)
    | false => False

def guardE (all : List Oper) (g : Option (Nat × Bool)) (e : Env) (yes no : Prop) : Prop :=
  match g with
  | none => yes
  | some (j, want) => match nth all j with
    | some o => match o.dst with
      | some d => match look e d with
        | some (.val (.bool b)) => match want with
          | true => bcase b yes no
          | false => bcase b no yes
        | _ => False
      | none => False
    | none => False

def runOps (T : Tab) (P : Program) (n : Nat) (all : List Oper) : List Oper → Env → Store → (Env → Store → Prop) → Prop
  | [], e, σ, K => K e σ
  | o :: rest, e, σ, K => guardE all o.guard e
      (stepOp T P o.op o.type e σ fun a σ' => putE n o.dst a e fun e' => runOps T P n all rest e' σ' K)
      (putE n o.dst .top e fun e' => runOps T P n all rest e' σ K)

/-! ### Code -/

def codeA (T : Tab) (P : Program) (ro : Option Nat) (n : Nat) : Code → (Exit → Env → Store → Prop) → Env → Store → Prop
  | .skip, Q, e, σ => Q .normal e σ
  | .label _, Q, e, σ => Q .normal e σ
  | .exit id, Q, e, σ => Q (.exit id) e σ
  | .ret, Q, e, σ => Q .ret e σ
  | .region _ ops false, Q, e, σ => runOps T P n ops.toList ops.toList e σ fun e' σ' => Q .normal e' σ'
  | .seq x y, Q, e, σ => codeA T P ro n x (fun ex e' σ' => match ex with
      | .normal => codeA T P ro n y Q e' σ'
      | ex => Q ex e' σ') e σ
  | .cond c x y, Q, e, σ => match V e c with
    | some (.val (.bool t)) => bcase t (codeA T P ro n x Q e σ) (codeA T P ro n y Q e σ)
    | _ => False
  | .block id c, Q, e, σ => codeA T P ro n c (fun ex e' σ' => match ex with
      | .exit j => match Nat.beq j id with
        | true => Q .normal e' σ'
        | false => Q (.exit j) e' σ'
      | ex => Q ex e' σ') e σ
  | .scope c, Q, e, σ => codeA T P ro n c (fun ex e' σ' => match ex with
      | .goto _ => False
      | ex => Q ex e' σ') e σ
  | c, Q, e, σ => AW P ro n c Q e σ

/-! ### Soundness -/

variable {P : Program} {T : Tab}

theorem FR.top {σ : Store} {w : World} {n : Nat} {e : Env} {t : Array Value} {d : Nat} (h : FR σ w n e t) (hd : d < n) (v : Value) : FR σ w n ((d, .top) :: e) (t.setIfInBounds d v) := h.put hd (.top v)

theorem putE_ok {σ : Store} {w : World} {n : Nat} {d : Option Tmp} {x : AV} {e : Env} {K : Env → Prop} {a : Act} {v : Value} (hfr : FR σ w n e a.tmps) (hv : VR σ w x v) (h : putE n d x e K) :
    ∃ e', K e' ∧ FR σ w n e' (a.put d v).tmps ∧ (a.put d v).defers = a.defers := by
  cases d with
  | none => exact ⟨e, h, hfr, rfl⟩
  | some d =>
    simp only [putE] at h
    split at h
    · rename_i hlt
      have hd : d < n := Nat.le_of_ble_eq_true hlt
      exact ⟨_, h, hfr.put hd hv, rfl⟩
    · exact h.elim

theorem lands_upon {ro : Option Nat} {o : Oper} {a : Act} {next : Act → World → Prop} {Q : Exit → Act → World → Prop} {R : Value → World → Prop} {r : Result Next} (h : Lands P R r)
    (hn : ∀ v w, R v w → next (a.put o.dst v) w) : o.uponIn (Fen ro) 0 P a next Q r := by
  unfold Lands at h
  split at h
  · exact hn _ _ h
  · exact hn _ _ h
  · refine ⟨fun hd => by simp [Fen, Fence.wide] at hd, ?_⟩
    have h1 : CallsIn Fence.wide 0 P _ _ _ _ := callsIn_wide.2 h
    have h2 : CallsIn Fence.wide 0 P _ _ _ _ := h1.mono (R' := fun e w'' => match e with
      | .returned v => next (a.put o.dst v) w''
      | .panicked chain => Q (.panic chain) a w''
      | .outgrown => LetsOut Q) (fun e w'' ⟨v, he, hr⟩ => by subst he; exact hn v w'' hr)
    refine CallsIn.mono (R := fun e w'' => match e with
      | .returned v => next (a.put o.dst v) w''
      | .panicked chain => Q (.panic chain) a w''
      | .outgrown => LetsOut Q) h2 ?_
    intro e w'' he
    cases e <;> exact he
  · refine ⟨fun hd => by simp [Fen, Fence.wide] at hd, ?_⟩
    have h2 : RoundIn Fence.wide 0 P _ _ _ _ _ _ _ := h.mono (R' := fun e w'' => match e with
      | .returned v => next (a.put o.dst v) w''
      | .panicked chain => Q (.panic chain) a w''
      | .outgrown => LetsOut Q) (fun e w'' ⟨v, he, hr⟩ => by subst he; exact hn v w'' hr)
    refine RoundIn.mono (R := fun e w'' => match e with
      | .returned v => next (a.put o.dst v) w''
      | .panicked chain => Q (.panic chain) a w''
      | .outgrown => LetsOut Q) h2 ?_
    intro e w'' he
    cases e <;> exact he
  · exact h.elim

theorem stepOp_noDefer {o : Op} {ty : TypeId} {e : Env} {σ : Store} {K : AV → Store → Prop} (h : stepOp T P o ty e σ K) : ∀ c, o ≠ .defer c := by
  rintro c rfl
  exact h

theorem VR.val_inv {σ : Store} {w : World} {u v : Value} (h : VR σ w (.val u) v) : v = u := by cases h; rfl

theorem getD_lt {t : Array Value} {d : Nat} {b : Bool} (h : t.getD d undefV = .bool b) : t[d]? = some (.bool b) := by
  by_cases hd : d < t.size
  · simp [Array.getD, hd] at h; simp [hd, h]
  · simp [Array.getD, hd, undefV] at h

theorem runOps_sound (hT : TabOk P T) {ro : Option Nat} {n B : Nat} {σ₀ : Store} {w₀ : World} {ops : Array Oper} {K : Env → Store → Prop} {Q : Exit → Env → Store → Prop} (hQ : ∀ e σ, K e σ → Q .normal e σ) :
    ∀ (rest : List Oper) (k : Nat), ops.toList.drop k = rest → ∀ (e : Env) (σ : Store) (a : Act) (w : World), runOps T P n ops.toList rest e σ K → Rel σ w → FR σ w n e a.tmps → DF B σ w a.defers → Step σ₀ w₀ σ w →
      wpOpsIn (Fen ro) 0 P ops (QC B n σ₀ w₀ Q) (List.range' k rest.length) a w
  | [], k, _, e, σ, a, w, h, hrel, hfr, hdf, hst => ⟨e, σ, hQ _ _ h, hrel, hfr, hdf, hst⟩
  | o :: rest, k, hk, e, σ, a, w, h, hrel, hfr, hdf, hst => by
    have ho : ops[k]? = some o := by
      have : (ops.toList.drop k)[0]? = some o := by rw [hk]; rfl
      simpa using this
    have hk' : ops.toList.drop (k + 1) = rest := by
      rw [← List.drop_drop, hk]; rfl
    simp only [List.length_cons, List.range'_succ, wpOpsIn, ho]
    have ih := runOps_sound (ro := ro) (n := n) (B := B) (σ₀ := σ₀) (w₀ := w₀) hT hQ rest (k + 1) hk'
    simp only [runOps] at h
    have yes : stepOp T P o.op o.type e σ (fun a σ' => putE n o.dst a e fun e' => runOps T P n ops.toList rest e' σ' K) →
        o.wpIn (Fen ro) 0 P a w (wpOpsIn (Fen ro) 0 P ops (QC B n σ₀ w₀ Q) (List.range' (k + 1) rest.length)) (QC B n σ₀ w₀ Q) := by
      intro hs
      refine ⟨fun _ _ => trivial, ?_⟩
      rw [Oper.semAt_eq _ _ _ (stepOp_noDefer hs)]
      refine lands_upon (stepOp_sound hT hrel hfr hs) ?_
      rintro v w' ⟨x, σ', hp, hv, hrel', hst'⟩
      obtain ⟨e', hr, hfr', hd'⟩ := putE_ok (hfr.step hst') hv hp
      exact ih e' σ' _ w' hr hrel' hfr' (by rw [hd']; exact hdf.step hst') (hst.trans hst')
    have no : putE n o.dst .top e (fun e' => runOps T P n ops.toList rest e' σ K) → wpOpsIn (Fen ro) 0 P ops (QC B n σ₀ w₀ Q) (List.range' (k + 1) rest.length) (a.put o.dst undef) w := by
      intro hp
      obtain ⟨e', hr, hfr', hd'⟩ := putE_ok hfr (.top undef) hp
      exact ih e' σ _ w hr hrel hfr' (by rw [hd']; exact hdf) hst
    unfold guardE at h
    split at h
    · rename_i hg
      have : Region.wanted o (yielded ops a.tmps) = true := by simp [Region.wanted, hg]
      rw [if_pos this]
      exact yes h
    · rename_i j want hg
      split at h
      case h_2 => exact h.elim
      rename_i oj hj
      split at h
      case h_2 => exact h.elim
      rename_i d hd
      split at h
      case h_2 => exact h.elim
      rename_i b hb
      have hvr := hfr.2 d _ hb
      have hbool : a.tmps.getD d undefV = .bool b := hvr.val_inv
      have hj' : ops[j]? = some oj := by rw [nth_eq] at hj; simpa using hj
      have hy : yielded ops a.tmps j = some b := by
        simp only [yielded, hj', Option.bind_some, hd, getD_lt hbool]
      have hw : Region.wanted o (yielded ops a.tmps) = (b == want) := by
        simp only [Region.wanted, hg, hy]
        cases b <;> cases want <;> rfl
      rw [hw]
      cases want
      · rcases bcase_elim h with ⟨rfl, h⟩ | ⟨rfl, h⟩
        · rw [if_neg (by decide)]; exact ⟨fun _ _ => trivial, no h⟩
        · rw [if_pos (by decide)]; exact yes h
      · rcases bcase_elim h with ⟨rfl, h⟩ | ⟨rfl, h⟩
        · rw [if_pos (by decide)]; exact yes h
        · rw [if_neg (by decide)]; exact ⟨fun _ _ => trivial, no h⟩

theorem QC.mono {B n : Nat} {σ : Store} {w : World} {Q Q' : Exit → Env → Store → Prop} {x : Exit} {a : Act} {w' : World} (h : QC B n σ w Q x a w') (hq : ∀ e σ, Q x e σ → Q' x e σ) : QC B n σ w Q' x a w' := by
  obtain ⟨e', σ', h1, h2⟩ := h
  exact ⟨e', σ', hq _ _ h1, h2⟩

theorem AW.mono {ro : Option Nat} {n : Nat} {c : Code} {Q Q' : Exit → Env → Store → Prop} {e : Env} {σ : Store} (h : AW P ro n c Q e σ) (hq : ∀ x e σ, Q x e σ → Q' x e σ) : AW P ro n c Q' e σ :=
  ⟨fun B a w h1 h2 h3 h4 => wpIn_mono (h.out B a w h1 h2 h3 h4) fun _ _ _ hx => hx.mono fun _ _ => hq _ _ _⟩

theorem AW.seq {ro : Option Nat} {n : Nat} {x y : Code} {Q : Exit → Env → Store → Prop} {e : Env} {σ : Store} (h : AW P ro n x (fun ex e' σ' => match ex with
      | .normal => AW P ro n y Q e' σ'
      | ex => Q ex e' σ') e σ) : AW P ro n (.seq x y) Q e σ := by
  refine ⟨fun B a w h1 h2 h3 h4 => wpIn_seq (wpIn_mono (h.out B a w h1 h2 h3 h4) ?_)⟩
  rintro ex a' w' ⟨e', σ', hq, hr, hf, hd, hs⟩
  cases ex with
  | normal =>
    refine wpIn_mono (hq.out B a' w' (Nat.le_trans h1 hs.size) hr hf hd) ?_
    rintro ex a'' w'' ⟨e'', σ'', hq', hr', hf', hd', hs'⟩
    exact ⟨e'', σ'', hq', hr', hf', hd', hs.trans hs'⟩
  | _ => exact ⟨e', σ', hq, hr, hf, hd, hs⟩

theorem stepR_scope {b : Frame} {a : Act} {k : List Item} {cs : List Frame} {w : World} {c : Code} : step P (lone (b.atR a (.code (.scope c) :: k)) cs w) = .next (lone (b.atR a (.code c :: .inScope c :: k)) cs w) :=
  step_lone_go (by simp [stepG, stepG.exec, Frame.atR])
theorem stepR_inScope {b : Frame} {a : Act} {k : List Item} {cs : List Frame} {w : World} {c : Code} : step P (lone (b.atR a (.inScope c :: k)) cs w) = .next (lone (b.atR a k) cs w) :=
  step_lone_go (by simp [stepG, stepG.exec, Frame.atR])

theorem wpIn_scope {F : Fence} {m : Nat} {c : Code} {Q : Exit → Act → World → Prop} {a : Act} {w : World} (h : c.wpIn F m P (Exit.noGoto Q) a w) : (Code.scope c).wpIn F m P Q a w := by
  intro b k cs hro hb hr
  have h0 : (lone (b.atR a (.code (.scope c) :: k)) cs w).fenced P F := fenced_calm hb hr rfl
  obtain ⟨e, a₁, w₁, hq, harr⟩ := h b (.inScope c :: k) cs hro hb hr
  cases e with
  | normal => exact ⟨.normal, a₁, w₁, hq, .head h0 stepR_scope (StepsIn.trans harr (.one (fenced_calm hb hr rfl) stepR_inScope))⟩
  | exit id =>
    have hx : exitTo id (.inScope c :: k) = exitTo id k := by simp [exitTo]
    exact ⟨.exit id, a₁, w₁, hq, fun k' hk => .head h0 stepR_scope (harr.1 k' (by rw [hx]; exact hk)),
      fun hr' hk => let ⟨k₁, h1, h2⟩ := harr.2 hr' (by rw [hx]; exact hk); ⟨k₁, h1, .head h0 stepR_scope h2⟩⟩
  | goto l => exact hq.elim
  | ret => exact ⟨.ret, a₁, w₁, hq, ArrivesIn.of_steps (k := k) (e := .ret) (.one h0 stepR_scope) (by exact harr)⟩
  | panic ch => exact ⟨.panic ch, a₁, w₁, hq, ArrivesIn.of_steps (k := k) (e := .panic ch) (.one h0 stepR_scope) (by exact harr)⟩
  | outgrown => exact ⟨.outgrown, a₁, w₁, hq, ArrivesIn.of_steps (k := k) (e := .outgrown) (.one h0 stepR_scope) (by exact harr)⟩

theorem codeA_sound (hT : TabOk P T) {ro : Option Nat} {n : Nat} : ∀ (c : Code) {Q : Exit → Env → Store → Prop} {e : Env} {σ : Store}, codeA T P ro n c Q e σ → AW P ro n c Q e σ := by
  intro c
  induction c with
  | skip => exact fun h => ⟨fun B a w _ h2 h3 h4 => wpIn_skip ⟨_, _, h, h2, h3, h4, .refl _ _⟩⟩
  | label l => exact fun h => ⟨fun B a w _ h2 h3 h4 => wpIn_label ⟨_, _, h, h2, h3, h4, .refl _ _⟩⟩
  | exit id => exact fun h => ⟨fun B a w _ h2 h3 h4 => wpIn_exit ⟨_, _, h, h2, h3, h4, .refl _ _⟩⟩
  | ret => exact fun h => ⟨fun B a w _ h2 h3 h4 => wpIn_ret ⟨_, _, h, h2, h3, h4, .refl _ _⟩⟩
  | region id ops draw =>
    cases draw with
    | true => exact fun h => h
    | false =>
      intro Q e σ h
      refine ⟨fun B a w _ h2 h3 h4 => wpIn_region ?_⟩
      have := runOps_sound (ro := ro) (B := B) (Q := Q) hT (fun _ _ hk => hk) ops.toList 0 rfl e σ a w h h2 h3 h4 (.refl _ _)
      rw [List.range_eq_range', ← Array.length_toList]
      exact this
  | seq x y ihx ihy =>
    intro Q e σ h
    refine AW.seq ((ihx h).mono ?_)
    intro ex e' σ' hq
    cases ex <;> first | exact ihy hq | exact hq
  | cond c x y ihx ihy =>
    intro Q e σ h
    simp only [codeA] at h
    split at h
    case h_2 => exact h.elim
    rename_i t hv
    refine ⟨fun B a w h1 h2 h3 h4 => ?_⟩
    have hvr := h3.V hv
    have hc : a.eval c = .bool t := hvr.val_inv
    rcases bcase_elim h with ⟨rfl, h⟩ | ⟨rfl, h⟩
    · exact wpIn_cond_true hc ((ihx h).out B a w h1 h2 h3 h4)
    · exact wpIn_cond_false hc ((ihy h).out B a w h1 h2 h3 h4)
  | block id c ih =>
    intro Q e σ h
    refine ⟨fun B a w h1 h2 h3 h4 => wpIn_block (wpIn_mono ((ih h).out B a w h1 h2 h3 h4) ?_)⟩
    rintro ex a' w' ⟨e', σ', hq, hr⟩
    cases ex with
    | exit j =>
      simp only [Exit.inBlock]
      dsimp only at hq
      split at hq
      · rename_i hj; rw [if_pos (Nat.eq_of_beq_eq_true hj)]; exact ⟨e', σ', hq, hr⟩
      · rename_i hj
        rw [if_neg (fun e => by rw [e, Nat.beq_refl] at hj; cases hj)]; exact ⟨e', σ', hq, hr⟩
    | _ => exact ⟨e', σ', hq, hr⟩
  | scope c ih =>
    intro Q e σ h
    refine ⟨fun B a w h1 h2 h3 h4 => wpIn_scope (wpIn_mono ((ih h).out B a w h1 h2 h3 h4) ?_)⟩
    rintro ex a' w' ⟨e', σ', hq, hr⟩
    cases ex with
    | goto l => exact hq.elim
    | _ => exact ⟨e', σ', hq, hr⟩
  | loop c ih => exact fun h => h
  | rangeFunc f ps x y _ _ => exact fun h => h
  | goto l => exact fun h => h
  | refuse why => exact fun h => h

end Go.Cr
