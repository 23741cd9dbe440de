/-
The abstract layer, part 21: small helps for the contracts.
No statement of the program; no condition.
-/
import Derived.Test.YtepgodnmdcbgeaaCrT
import Derived.Lib.AppendZeros

namespace Go.Cr
open Go Go.RowKit

/-- An index that is counted up. -/
theorem Sub.idx {e e' : Env} {d i : Nat} (h : look e d = some (.val (.int .i64 (IntKind.wrap .i64 ((i : Int) + 1))))) (hi : i < 9223372036854775807) (hs : Sub e e') : Sub e ((d, .val (.int .i64 ((i + 1 : Nat) : Int))) :: e') := by
  refine .cons ?_ hs
  rw [h, wrap64 (by omega) (by omega)]; rfl

theorem bys_get {l : List UInt8} {i : Nat} (h : i < l.length) : (l.map u8)[i]? = some (u8 l[i]) := by simp [h]
theorem bys_get' {l : List UInt8} {i : Nat} (h : i < l.length) : (l.map u8)[((i : Nat) : Int).toNat]? = some (u8 l[i]) := by simp [h]
theorem bys_part (l : List UInt8) (i n : Nat) : ((l.map u8).drop i).take n = ((l.drop i).take n).map u8 := by simp [List.map_drop, List.map_take]

theorem Frz.refl (r : AV) (σ : Store) : Frz r σ r σ := .drop (.refl _)

/-- The same value, the same store. -/
theorem seen {R : AV → Store → Prop} {r : AV} {σ : Store} (h : R r σ) : ∃ r' σ', Frz r σ r' σ' ∧ R r' σ' := ⟨r, σ, .refl _ _, h⟩

/-- A load out of a row. -/
theorem opt_some {o : Option AV} {K : AV → Prop} (x : AV) : o = some x → K x → (match o with
    | some x => K x
    | none => False) := fun h hk => by subst h; exact hk

variable {P : Program} {T : Tab}

theorem cap_nil (hT : TabOk P T) {t : TypeId} {ti : TI} (ht : T.get t = some ti) {et : TypeId} (hti : ti.kind = .slice et) {x : Operand} {ty : TypeId} {σ : Store} {K : AV → Store → Prop} (h : K (.val (.int .i64 ((0 : Nat) : Int))) σ) :
    AOpaque P (.call { callee := .builtin .cap, args := #[x], argTypes := #[t] }) ty [some (.val (.slice none 0 0))] σ K := by
  refine ⟨fun ρ w op ho hty hrel hv => ?_⟩
  obtain ⟨⟨d, hd, hk2⟩, _⟩ := hT t ti ht
  rw [hti] at hk2; have := tk_slice hk2; subst this
  have e1 : ρ x = .slice none 0 0 := (hv 0 x _ (by simp [Op.operands, Call.operands]) rfl).val_inv
  have a0 : (#[t] : Array TypeId)[0]? = some t := rfl
  have a1 : (#[.slice none 0 0] : Array Value)[0]? = some (.slice none 0 0) := rfl
  have run : (Builtin.cap_ #[t] op.type #[.slice none 0 0]).run P w = .ok (.int .i64 ((0 : Nat) : Int)) w := by
    simp only [Builtin.cap_, a0, a1, Sem.run_bind, run_underlying' hd, Result.andThen_ok, Sem.run_pure]; rfl
  have hx : (execOp ρ op).run P w = .ok (.value (.int .i64 ((0 : Nat) : Int))) w := by
    simp only [execOp, ho, resolve, Sem.run_bind, Sem.run_pure, Result.andThen_ok, invoke, builtin]
    simp only [List.map_toArray, List.map_cons, List.map_nil, e1, run, Result.andThen_ok]
  rw [hx]
  exact Post.same hrel (.val _) h

/-- append(nil, make([]T, n)...): a row of one's own, of which nothing is said. -/
theorem append_make (hT : TabOk P T) {t tn : TypeId} {ti tni : TI} (ht : T.get t = some ti) {et : TypeId} (hti : ti.kind = .slice et) (htn : T.get tn = some tni) {kn : IntKind} (htk : tni.kind = .int kn) {ei : TI} (he : T.get et = some ei) {x y : Operand} {ty : TypeId} {σ : Store} {n : Nat} {k : IntKind} {K : AV → Store → Prop}
    (h0 : 0 < n) (hs : 0 < ei.size) (h63 : n ≤ 9223372036854775807) (h48 : n * ei.bytes ≤ 281474976710656) (h : ∀ b, σ b = none → K (.arr b 0 n ei.size) (σ.set b (.row []))) :
    AOpaque P (.call { callee := .builtin .append, args := #[x, y], argTypes := #[t, tn] }) ty [some (.val (.slice none 0 0)), some (.val (.int k (n : Int)))] σ K := by
  refine ⟨fun ρ w op ho hty hrel hv => ?_⟩
  obtain ⟨⟨d, hd, hk2⟩, _⟩ := hT t ti ht
  rw [hti] at hk2; have := tk_slice hk2; subst this
  obtain ⟨⟨d2, hd2, hk3⟩, _⟩ := hT tn tni htn
  rw [htk] at hk3; have := tk_int hk3; subst this
  obtain ⟨_, ⟨i, hi, hi1, hi2, hiz⟩, hzs⟩ := hT et ei he
  have e1 : ρ x = .slice none 0 0 := (hv 0 x _ (by simp [Op.operands, Call.operands]) rfl).val_inv
  have e2 : ρ y = .int k n := (hv 1 y _ (by simp [Op.operands, Call.operands]) rfl).val_inv
  have run := Lib.run_append_nil_zeros w t tn op.type et i ei.zero k kn hd hd2 hi hiz n h0 (by omega) (by omega) (by rw [hi2]; exact h48)
  have hx : (execOp ρ op).run P w = .ok (.value (.slice (some ⟨w.heap.size, 0, none⟩) n (grownCap w n 0 et))) (w.drew.alloc (.cells (Builtin.zeroCells ei.zero.cells n ++ Builtin.zeroCells ei.zero.cells (grownCap w n 0 et - n)) et)) := by
    simp only [execOp, ho, resolve, Sem.run_bind, Sem.run_pure, Result.andThen_ok, invoke, builtin]
    simp only [List.map_toArray, List.map_cons, List.map_nil, e1, e2, run, Result.andThen_ok]
  rw [hx]
  have hge := grownCap_ge w n 0 et
  have hsz : (Builtin.zeroCells ei.zero.cells n ++ Builtin.zeroCells ei.zero.cells (grownCap w n 0 et - n)).size = grownCap w n 0 et * ei.size := by
    rw [Array.size_append, size_zeroCells, size_zeroCells, hzs, ← Nat.add_mul]; congr 1; omega
  have hrd := hrel.drew
  have hnew := heap_alloc_eq w.drew (.cells (Builtin.zeroCells ei.zero.cells n ++ Builtin.zeroCells ei.zero.cells (grownCap w n 0 et - n)) et)
  refine ⟨_, _, h w.heap.size (hrel.fresh (Nat.le_refl _)), ?_, hrd.alloc ?_, (Step.drew σ w).trans (Step.alloc σ w.drew _ _)⟩
  · exact .arr _ _ _ _ _ _ et (0, 0) hge hnew (by rw [hsz]; omega)
  · exact ⟨_, et, (0, 0), hnew, by simp, fun i _ => by simp, fun i hi => by simp at hi, fun i y hy => by simp at hy⟩

end Go.Cr
