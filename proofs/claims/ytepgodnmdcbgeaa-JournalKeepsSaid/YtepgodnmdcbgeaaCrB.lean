/-
The abstract layer, part 2: the environment of a frame, the table of types, and what one operation does, reckoned on abstract values; each reckoning is sound for the model's own run.
No statement of the program; no condition.
-/
import Derived.Test.YtepgodnmdcbgeaaCrA
import Derived.CallsIn
import Derived.Laws.IdiomCopy
import Derived.Deep.AppendLies
import Derived.Deep.Fields

namespace Go.Cr
open Go Go.RowKit

/-! ### The environment -/

theorem look_cons_eq (j : Nat) (v : AV) (e : Env) : look ((j, v) :: e) j = some v := by simp [look]
theorem look_cons_ne {j i : Nat} (h : j ≠ i) (v : AV) (e : Env) : look ((j, v) :: e) i = look e i := by
  have : Nat.beq j i = false := by
    cases hb : Nat.beq j i with
    | false => rfl
    | true => exact absurd (Nat.eq_of_beq_eq_true hb) h
  simp [look, this]

/-- The frame's slots are what the environment says. -/
def FR (σ : Store) (w : World) (n : Nat) (e : Env) (t : Array Value) : Prop := t.size = n ∧ ∀ i x, look e i = some x → VR σ w x (t.getD i undefV)

theorem FR.step {σ σ' : Store} {w w' : World} {n : Nat} {e : Env} {t : Array Value} (hs : Step σ w σ' w') (h : FR σ w n e t) : FR σ' w' n e t := ⟨h.1, fun i x hx => (h.2 i x hx).step hs⟩

theorem FR.put {σ : Store} {w : World} {n d : Nat} {e : Env} {t : Array Value} {v : Value} {x : AV} (h : FR σ w n e t) (hd : d < n) (hv : VR σ w x v) : FR σ w n ((d, x) :: e) (t.setIfInBounds d v) := by
  refine ⟨by simpa using h.1, fun i y hy => ?_⟩
  by_cases hi : d = i
  · subst hi
    rw [look_cons_eq] at hy
    injection hy with hy
    subst hy
    have : d < t.size := by rw [h.1]; exact hd
    simp [Array.getD, this]
    exact hv
  · rw [look_cons_ne hi] at hy
    have := h.2 i y hy
    have e2 : (t.setIfInBounds d v).getD i undefV = t.getD i undefV := by
      by_cases hi2 : i < t.size
      · simp [Array.getD, hi2, hi]
      · simp [Array.getD, hi2]
    rw [e2]; exact this

/-- The environment may say less. -/
def Sub (e e' : Env) : Prop := ∀ i x, look e' i = some x → look e i = some x
theorem FR.sub {σ : Store} {w : World} {n : Nat} {e e' : Env} {t : Array Value} (h : FR σ w n e t) (hs : Sub e e') : FR σ w n e' t := ⟨h.1, fun i x hx => h.2 i x (hs i x hx)⟩

def V (e : Env) : Operand → Option AV
  | .tmp t => look e t
  | .const v => some (.val v)
  | .global g => some (.val (.pointer (some ⟨g, 0, none⟩)))
  | .func f => some (.fn (.func f) [] [])

def Vl (e : Env) : List Operand → Option (List AV)
  | [] => some []
  | x :: r => match V e x with
    | some a => match Vl e r with
      | some as => some (a :: as)
      | none => none
    | none => none

theorem FR.V {σ : Store} {w : World} {n : Nat} {e : Env} {a : Act} (h : FR σ w n e a.tmps) {x : Operand} {v : AV} (hv : V e x = some v) : VR σ w v (a.eval x) := by
  cases x with
  | tmp t => exact h.2 t v hv
  | const c => simp only [Cr.V, Option.some.injEq] at hv; subst hv; exact .val c
  | global g => simp only [Cr.V, Option.some.injEq] at hv; subst hv; exact .val _
  | func f => simp only [Cr.V, Option.some.injEq] at hv; subst hv; exact .fn _ _ _ _ _ rfl rfl (by simp) (by simp)

theorem FR.Vl {σ : Store} {w : World} {n : Nat} {e : Env} {a : Act} (h : FR σ w n e a.tmps) : ∀ {xs : List Operand} {vs : List AV}, Vl e xs = some vs → VRs σ w vs (xs.map a.eval).toArray
  | [], vs, hv => by simp only [Cr.Vl, Option.some.injEq] at hv; subst hv; exact ⟨rfl, by simp⟩
  | x :: r, vs, hv => by
    simp only [Cr.Vl] at hv
    split at hv
    · rename_i v hx
      split at hv
      · rename_i vr hr
        injection hv with hv
        subst hv
        have ih := h.Vl hr
        refine ⟨by simpa using ih.1, fun i y hy => ?_⟩
        cases i with
        | zero => simp only [List.getElem?_cons_zero, Option.some.injEq] at hy; subst hy; exact h.V hx
        | succ i =>
          have := ih.2 i y (by simpa using hy)
          simpa [Array.getD_eq_getD_getElem?] using this
      · cases hv
    · cases hv

/-! ### The table of types -/

inductive TK where
  | int (k : IntKind) | bool | string | ptr (e : TypeId) | slice (e : TypeId) | array (n : Nat) (e : TypeId) | map (k e : TypeId) | struct (fs : List (Nat × TypeId)) | func | iface | other

def tkOf : TypeDesc → TK
  | .int k => .int k
  | .bool => .bool
  | .string => .string
  | .pointer e => .ptr e
  | .slice e => .slice e
  | .array n e => .array n e
  | .map k e => .map k e
  | .struct fs => .struct (fs.toList.map fun f => (f.offset, f.type))
  | .func _ _ _ => .func
  | .interface _ => .iface
  | _ => .other

structure TI where
  kind : TK
  size : Nat
  bytes : Nat
  zero : Value

abbrev Tab := List (Nat × TI)

def Tab.get : Tab → Nat → Option TI
  | [], _ => none
  | (j, v) :: e, i => match Nat.beq j i with
    | true => some v
    | false => Tab.get e i

/-- What the table says holds of the program. -/
def TabOk (P : Program) (T : Tab) : Prop := ∀ t ti, T.get t = some ti → (∃ d, P.underlying t = some d ∧ tkOf d = ti.kind) ∧ (∃ i, P.info? t = some i ∧ i.size = ti.size ∧ i.bytes = ti.bytes ∧ i.zero = some ti.zero) ∧ ti.zero.cells.size = ti.size

def TI.agg (ti : TI) : Bool := match ti.kind with
  | .struct _ | .array _ _ => true
  | _ => false

/-! ### What a run of one operation lands in -/

def Lands (P : Program) (R : Value → World → Prop) : Result Next → Prop
  | .ok (.value v) w' => R v w'
  | .ok .skip w' => R undefV w'
  | .ok (.enter f args) w' => Calls P f args w' (fun e w'' => ∃ v, e = .returned v ∧ R v w'')
  | .ok (.round l f tmps assign body) w' => RoundIn Fence.wide 0 P l f tmps assign body w' (fun e w'' => ∃ v, e = .returned v ∧ R v w'')
  | _ => False

theorem Lands.mono {P : Program} {R R' : Value → World → Prop} {r : Result Next} (h : Lands P R r) (hr : ∀ v w, R v w → R' v w) : Lands P R' r := by
  unfold Lands at h ⊢
  split at h
  · exact hr _ _ h
  · exact hr _ _ h
  · exact h.mono fun e w'' ⟨v, h1, h2⟩ => ⟨v, h1, hr _ _ h2⟩
  · exact h.mono fun e w'' ⟨v, h1, h2⟩ => ⟨v, h1, hr _ _ h2⟩
  · exact h.elim

/-- What an operation must come to: some abstract value, some store, of which K holds. -/
def Post (σ : Store) (w : World) (K : AV → Store → Prop) (v : Value) (w' : World) : Prop := ∃ a σ', K a σ' ∧ VR σ' w' a v ∧ Rel σ' w' ∧ Step σ w σ' w'

theorem Post.same {σ : Store} {w : World} {K : AV → Store → Prop} {v : Value} {a : AV} (hrel : Rel σ w) (hv : VR σ w a v) (hk : K a σ) : Post σ w K v w := ⟨a, σ, hk, hv, hrel, .refl σ w⟩

/-! ### Operations on values alone -/

def sameK (k k' : IntKind) (p : Prop) : Prop := match decide (k = k') with
  | true => p
  | false => False

theorem sameK_elim {k k' : IntKind} {p : Prop} (h : sameK k k' p) : k = k' ∧ p := by
  unfold sameK at h
  split at h
  · rename_i hk; exact ⟨of_decide_eq_true hk, h⟩
  · exact h.elim

/-- Two operands of one kind of integer, two strings, two bools; a value against nil. -/
def binA (op : BinOp) (a b : AV) (K : AV → Prop) : Prop :=
  match a, b with
  | .val (.int k x), .val (.int k' y) =>
    match op with
    | .shl => 0 ≤ y ∧ K (.val (.int k (k.wrap (x * 2 ^ min y.toNat k.bits))))
    | .shr => 0 ≤ y ∧ K (.val (.int k (x.fdiv (2 ^ min y.toNat k.bits))))
    | .add => sameK k k' (K (.val (.int k (k.wrap (x + y)))))
    | .sub => sameK k k' (K (.val (.int k (k.wrap (x - y)))))
    | .mul => sameK k k' (K (.val (.int k (k.wrap (x * y)))))
    | .quo => sameK k k' (y ≠ 0 ∧ K (.val (.int k (k.wrap (x.tdiv y)))))
    | .rem => sameK k k' (y ≠ 0 ∧ K (.val (.int k (x.tmod y))))
    | .and => sameK k k' (K (.val (.int k (k.wrap (BitVec.ofInt k.bits x &&& BitVec.ofInt k.bits y).toNat))))
    | .or => sameK k k' (K (.val (.int k (k.wrap (BitVec.ofInt k.bits x ||| BitVec.ofInt k.bits y).toNat))))
    | .xor => sameK k k' (K (.val (.int k (k.wrap (BitVec.ofInt k.bits x ^^^ BitVec.ofInt k.bits y).toNat))))
    | .andNot => sameK k k' (K (.val (.int k (k.wrap (BitVec.ofInt k.bits x &&& ~~~BitVec.ofInt k.bits y).toNat))))
    | .eql => sameK k k' (K (.val (.bool (x == y))))
    | .neq => sameK k k' (K (.val (.bool (x != y))))
    | .lss => sameK k k' (K (.val (.bool (decide (x < y)))))
    | .leq => sameK k k' (K (.val (.bool (decide (x ≤ y)))))
    | .gtr => sameK k k' (K (.val (.bool (decide (x > y)))))
    | .geq => sameK k k' (K (.val (.bool (decide (x ≥ y)))))
  | .val (.string x), .val (.string y) =>
    match op with
    | .eql => K (.val (.bool (x.toList == y.toList)))
    | .neq => K (.val (.bool (!(x.toList == y.toList))))
    | .lss => K (.val (.bool (Op.bytesLess x.toList y.toList)))
    | .leq => K (.val (.bool (Op.bytesLess x.toList y.toList || x.toList == y.toList)))
    | .gtr => K (.val (.bool (!(Op.bytesLess x.toList y.toList || x.toList == y.toList))))
    | .geq => K (.val (.bool (!Op.bytesLess x.toList y.toList)))
    | .add => x.size + y.size ≤ 9223372036854775807 ∧ K (.val (.string (x ++ y)))
    | _ => False
  | _, _ => False

theorem binA_sound {P : Program} {σ : Store} {w : World} {op : BinOp} {a b : AV} {va vb : Value} {t : TypeId} {x y : Operand} {K : AV → Prop} (ha : VR σ w a va) (hb : VR σ w b vb) (h : binA op a b K) :
    ∃ v, (do eqGuard op t x y va vb; binOp op t va vb : Sem Value).run P w = .ok v w ∧ ∃ r, K r ∧ VR σ w r v := by
  unfold binA at h
  split at h
  · cases ha; cases hb
    rename_i k x k' y
    have hg : ∀ (u v : Operand), (eqGuard op t u v (.int k x) (.int k' y)).run P w = .ok () w := fun u v => by unfold eqGuard; cases op <;> simp
    cases op <;> simp only [] at h
    case shl => exact ⟨_, by simp only [Sem.run_bind, hg, Result.andThen_ok, binOp, Op.shift, if_neg (show ¬ y < 0 by omega), Sem.run_pure], _, h.2, .val _⟩
    case shr => exact ⟨_, by simp only [Sem.run_bind, hg, Result.andThen_ok, binOp, Op.shift, if_neg (show ¬ y < 0 by omega), Sem.run_pure], _, h.2, .val _⟩
    case quo => obtain ⟨rfl, hy, h'⟩ := sameK_elim h; exact ⟨_, by simp [hg, binOp, Op.intDiv, hy], _, h', .val _⟩
    case rem => obtain ⟨rfl, hy, h'⟩ := sameK_elim h; exact ⟨_, by simp [hg, binOp, Op.intDiv, hy], _, h', .val _⟩
    all_goals
      obtain ⟨rfl, h'⟩ := sameK_elim h
      exact ⟨_, by simp [hg, binOp, Op.intArith, Op.intBits, Op.intCmp], _, h', .val _⟩
  · cases ha; cases hb
    rename_i x y
    have hg : ∀ (u v : Operand), (eqGuard op t u v (.string x) (.string y)).run P w = .ok () w := fun u v => by unfold eqGuard; cases op <;> simp
    cases op <;> simp only [] at h
    case add =>
      obtain ⟨hs, h⟩ := h
      have hm : ¬ ((x.size + y.size : Nat) : Int) > IntKind.i64.max := by simp [IntKind.max, IntKind.signed, IntKind.bits]; omega
      exact ⟨_, by simp only [Sem.run_bind, hg, Result.andThen_ok, binOp, Op.stringOp, if_neg hm, Sem.run_pure], _, h, .val _⟩
    all_goals first
      | exact h.elim
      | exact ⟨_, by simp [hg, binOp, Op.stringOp], _, h, .val _⟩
  · exact h.elim

/-! ### Equality where it is not of integers or strings -/

def eqA (k : TK) (a b : AV) (K : Bool → Prop) : Prop :=
  match k, a, b with
  | .bool, .val (.bool x), .val (.bool y) => K (x == y)
  | .ptr _, .val (.pointer none), .val (.pointer y) => K y.isNone
  | .ptr _, .val (.pointer (some _)), .val (.pointer none) => K false
  | .ptr _, .iptr _, .val (.pointer none) => K false
  | .ptr _, .val (.pointer none), .iptr _ => K false
  | .slice _, .val (.slice none _ _), .val (.slice y _ _) => K y.isNone
  | .slice _, .arr .., .val (.slice none _ _) => K false
  | .slice _, .sl _ l, .val (.slice none _ _) => ∀ r, (r = true → l = []) → K r
  | .map _ _, .val (.map none), .val (.map y) => K y.isNone
  | .map _ _, .val (.map (some _)), .val (.map none) => K false
  | .func, .val .nilFunc, .val .nilFunc => K true
  | .func, .fn .., .val .nilFunc => K false
  | .func, .val .nilFunc, .fn .. => K false
  | _, _, _ => False

theorem tk_bool {d : TypeDesc} (h : tkOf d = .bool) : d = .bool := by cases d <;> simp [tkOf] at h ⊢
theorem tk_string {d : TypeDesc} (h : tkOf d = .string) : d = .string := by cases d <;> simp [tkOf] at h ⊢
theorem tk_int {d : TypeDesc} {k : IntKind} (h : tkOf d = .int k) : d = .int k := by cases d <;> simp [tkOf] at h ⊢; exact h
theorem tk_ptr {d : TypeDesc} {e : TypeId} (h : tkOf d = .ptr e) : d = .pointer e := by cases d <;> simp [tkOf] at h ⊢; exact h
theorem tk_slice {d : TypeDesc} {e : TypeId} (h : tkOf d = .slice e) : d = .slice e := by cases d <;> simp [tkOf] at h ⊢; exact h
theorem tk_array {d : TypeDesc} {n : Nat} {e : TypeId} (h : tkOf d = .array n e) : d = .array n e := by cases d <;> simp [tkOf] at h ⊢; exact h
theorem tk_map {d : TypeDesc} {k e : TypeId} (h : tkOf d = .map k e) : d = .map k e := by cases d <;> simp [tkOf] at h ⊢; exact h
theorem tk_func {d : TypeDesc} (h : tkOf d = .func) : ∃ a b c, d = .func a b c := by cases d <;> simp [tkOf] at h ⊢
theorem tk_struct {d : TypeDesc} {l : List (Nat × TypeId)} (h : tkOf d = .struct l) : ∃ fs : Array Field, d = .struct fs ∧ l = fs.toList.map fun f => (f.offset, f.type) := by
  cases d <;> simp [tkOf] at h ⊢; exact h.symm

theorem run_underlying' {P : Program} {t : TypeId} {d : TypeDesc} (h : P.underlying t = some d) (w : World) : (underlying t).run P w = .ok d w := by simp [underlying, h]

theorem eqA_sound {P : Program} {σ : Store} {w : World} {t : TypeId} {d : TypeDesc} (hd : P.underlying t = some d) {a b : AV} {va vb : Value} {K : Bool → Prop} (ha : VR σ w a va) (hb : VR σ w b vb)
    (h : eqA (tkOf d) a b K) : ∃ r, (Op.equal t va vb).run P w = .ok r w ∧ K r := by
  suffices H : ∀ n, ∃ r, (Op.equalIn (n + 1) t va vb).run P w = .ok r w ∧ K r from H 9999
  intro n
  unfold eqA at h
  split at h
  · rename_i hk; have := tk_bool hk; subst this; cases ha; cases hb
    exact ⟨_, by simp only [Op.equalIn, Sem.run_bind, run_underlying' hd, Result.andThen_ok, Sem.run_pure] <;> rfl, h⟩
  · rename_i hk; have := tk_ptr hk; subst this; cases ha; cases hb
    exact ⟨_, by simp only [Op.equalIn, Sem.run_bind, run_underlying' hd, Result.andThen_ok, Sem.run_pure] <;> rfl, h⟩
  · rename_i hk; have := tk_ptr hk; subst this; cases ha; cases hb
    exact ⟨_, by simp only [Op.equalIn, Sem.run_bind, run_underlying' hd, Result.andThen_ok, Sem.run_pure] <;> rfl, h⟩
  · rename_i hk; have := tk_ptr hk; subst this; cases ha; cases hb
    exact ⟨_, by simp only [Op.equalIn, Sem.run_bind, run_underlying' hd, Result.andThen_ok, Sem.run_pure] <;> rfl, h⟩
  · rename_i hk; have := tk_ptr hk; subst this; cases ha; cases hb
    exact ⟨_, by simp only [Op.equalIn, Sem.run_bind, run_underlying' hd, Result.andThen_ok, Sem.run_pure] <;> rfl, h⟩
  · rename_i hk; have := tk_slice hk; subst this; cases ha; cases hb
    exact ⟨_, by simp only [Op.equalIn, Sem.run_bind, run_underlying' hd, Result.andThen_ok, Sem.run_pure] <;> rfl, h⟩
  · rename_i hk; have := tk_slice hk; subst this; cases ha; cases hb
    exact ⟨_, by simp only [Op.equalIn, Sem.run_bind, run_underlying' hd, Result.andThen_ok, Sem.run_pure] <;> rfl, h⟩
  · rename_i hk; have := tk_slice hk; subst this
    cases hb
    cases ha with
    | sl0 sz a cap =>
      cases a with
      | none => exact ⟨_, by simp only [Op.equalIn, Sem.run_bind, run_underlying' hd, Result.andThen_ok, Sem.run_pure] <;> rfl, h true fun _ => rfl⟩
      | some a => exact ⟨_, by simp only [Op.equalIn, Sem.run_bind, run_underlying' hd, Result.andThen_ok, Sem.run_pure] <;> rfl, h false fun e => by cases e⟩
    | sl l b off cap sz f hcap hsz hσ hb hc h1 hv => exact ⟨_, by simp only [Op.equalIn, Sem.run_bind, run_underlying' hd, Result.andThen_ok, Sem.run_pure] <;> rfl, h false fun e => by cases e⟩
  · rename_i hk; have := tk_map hk; subst this; cases ha; cases hb
    exact ⟨_, by simp only [Op.equalIn, Sem.run_bind, run_underlying' hd, Result.andThen_ok, Sem.run_pure] <;> rfl, h⟩
  · rename_i hk; have := tk_map hk; subst this; cases ha; cases hb
    exact ⟨_, by simp only [Op.equalIn, Sem.run_bind, run_underlying' hd, Result.andThen_ok, Sem.run_pure] <;> rfl, h⟩
  · rename_i hk; obtain ⟨_, _, _, rfl⟩ := tk_func hk; cases ha; cases hb
    exact ⟨_, by simp only [Op.equalIn, Sem.run_bind, run_underlying' hd, Result.andThen_ok, Sem.run_pure] <;> rfl, h⟩
  · rename_i hk; obtain ⟨_, _, _, rfl⟩ := tk_func hk; cases ha; cases hb
    exact ⟨_, by simp only [Op.equalIn, Sem.run_bind, run_underlying' hd, Result.andThen_ok, Sem.run_pure] <;> rfl, h⟩
  · rename_i hk; obtain ⟨_, _, _, rfl⟩ := tk_func hk; cases ha; cases hb
    exact ⟨_, by simp only [Op.equalIn, Sem.run_bind, run_underlying' hd, Result.andThen_ok, Sem.run_pure] <;> rfl, h⟩
  · exact h.elim

end Go.Cr
