/-
The abstract layer, part 6: new variables, slices of slices, append, copy: the reckonings are sound.
No statement of the program; no condition.
-/
import Derived.Test.YtepgodnmdcbgeaaCrE

namespace Go.Cr
open Go Go.RowKit

variable {P : Program} {T : Tab}

/-! ### New blocks -/

/-- A new row whose first cells are known. -/
theorem new_row {σ : Store} {w : World} {cs : List AV} {c : Array Value} {e : TypeId} {k : Nat → AV} {K : AV → Store → Prop} {v : Value} (hrel : Rel σ w) (hl : cs.length ≤ c.size)
    (h1 : ∀ i, i < cs.length → (c.getD i undefV).oneCell' = true) (hc : ∀ i y, cs[i]? = some y → VR σ w y (c.getD i undefV)) (h : newA cs k σ K) (hv : ∀ σ' : Store, VR σ' (w.alloc (.cells c e)) (k w.heap.size) v) : Post σ w K v (w.alloc (.cells c e)) := by
  have hstep := Step.alloc σ w (.cells c e) (.row cs)
  refine ⟨k w.heap.size, _, h w.heap.size (hrel.fresh (Nat.le_refl _)), hv _, hrel.alloc ?_, hstep⟩
  refine ⟨c, e, (0, 0), heap_alloc_eq w _, hl, fun i _ => by omega, h1, fun i y hy => (hc i y hy).step hstep⟩

theorem VR.ptr (σ : Store) (w : World) (b : Nat) : VR σ w (ptrA b) (.pointer (some ⟨b, 0, none⟩)) := .val _

theorem ones_get {c : Array Value} (h : ∀ u ∈ c.toList, u.oneCell' = true) {i : Nat} (hi : i < c.size) : (c.getD i undefV).oneCell' = true := by
  have : c.getD i undefV = c[i] := by simp [Array.getD, hi]
  rw [this]; exact h _ (by simp)

theorem boxA_sound {σ : Store} {w : World} {a : AV} {va : Value} {t : TypeId} {K : AV → Store → Prop} (hrel : Rel σ w) (ha : VR σ w a va) (h : boxA a σ K) :
    ∃ v w', (Instr.box t va).run P w = .ok v w' ∧ Post σ w K v w' := by
  unfold boxA at h
  split at h
  · rename_i ht
    have hvs := ha.cells (AV.top_of_ones ht)
    refine ⟨_, _, by simp only [Instr.box, newVar, newRow, Sem.run_bind, run_newObj, Result.andThen_ok, Sem.run_pure, World.alloc_eq]; rfl, ?_⟩
    rcases h with h | h
    · have hstep := Step.alloc' σ w (.cells va.cells t)
      refine ⟨_, σ, h, ?_, fun b o hb => (hrel b o hb).step hstep (heap_alloc_lt (hrel.lt hb)), hstep⟩
      refine .iptr _ _ 0 (fun i => va.cells.getD i undefV) (hrel.fresh (Nat.le_refl _)) (by simp) (fun i hi => ?_) (fun i hi => ones_get (ha.ones ht) (by rw [hvs.1]; exact hi)) (fun i y hy => (hvs.2 i y hy).step hstep)
      have hi' : i < va.cells.size := by rw [hvs.1]; exact hi
      rw [cell_of_row' (heap_alloc_eq w _)]
      simp [Array.getD, hi']
    · exact new_row hrel (by rw [hvs.1]; exact Nat.le_refl _) (fun i hi => ones_get (ha.ones ht) (by rw [hvs.1]; exact hi)) hvs.2 h (fun _ => .val _)
  · exact h.elim

theorem VRs.vals (σ : Store) (w : World) (v : Value) : VRs σ w (AV.cells (.val v)) v.cells := (VR.val v).cells rfl

theorem allocA_sound (hT : TabOk P T) {σ : Store} {w : World} {t : TypeId} {K : AV → Store → Prop} (hrel : Rel σ w) (h : allocA T t σ K) :
    ∃ v w', (Instr.alloc t true (.tuple #[])).run P w = .ok v w' ∧ Post σ w K v w' := by
  unfold allocA at h
  split at h
  · rename_i ti hti
    split at h
    case h_2 => exact h.elim
    rename_i ht
    have hvs := VRs.vals σ w ti.zero
    refine ⟨_, _, by simp only [Instr.alloc, newVar, newRow, Sem.run_bind, run_zero' hT hti, run_newObj, Result.andThen_ok, Sem.run_pure, World.alloc_eq]; rfl, ?_⟩
    exact new_row hrel (by rw [hvs.1]; exact Nat.le_refl _) (fun i hi => ones_get ((VR.val (σ := σ) (w := w) ti.zero).ones ht) (by rw [hvs.1]; exact hi)) hvs.2 h (fun _ => .val _)
  · exact h.elim

/-! ### Slices of slices -/

theorem flat_take {sz : Nat} {l : List AV} (h : ∀ x ∈ l, x.cells.length = sz) (n : Nat) : (l.take n).flatMap AV.cells = (l.flatMap AV.cells).take (n * sz) := by
  induction l generalizing n with
  | nil => simp
  | cons a l ih =>
    cases n with
    | zero => simp
    | succ n =>
      have ha := h a List.mem_cons_self
      simp only [List.take_succ_cons, List.flatMap_cons]
      rw [ih (fun x hx => h x (List.mem_cons_of_mem _ hx)), List.take_append, ha]
      have e1 : (n + 1) * sz - sz = n * sz := by rw [Nat.add_mul]; omega
      rw [e1, show List.take ((n + 1) * sz) a.cells = a.cells from List.take_of_length_le (by rw [ha, Nat.add_mul]; omega)]

theorem flat_drop {sz : Nat} {l : List AV} (h : ∀ x ∈ l, x.cells.length = sz) (n : Nat) : (l.drop n).flatMap AV.cells = (l.flatMap AV.cells).drop (n * sz) := by
  induction l generalizing n with
  | nil => simp
  | cons a l ih =>
    cases n with
    | zero => simp
    | succ n =>
      have ha := h a List.mem_cons_self
      simp only [List.drop_succ_cons, List.flatMap_cons]
      rw [ih (fun x hx => h x (List.mem_cons_of_mem _ hx)), List.drop_append, ha]
      have e1 : (n + 1) * sz - sz = n * sz := by rw [Nat.add_mul]; omega
      rw [e1, show List.drop ((n + 1) * sz) a.cells = [] from List.drop_of_length_le (by rw [ha, Nat.add_mul]; omega)]; simp

/-- A part of a slice that nobody writes. -/
theorem VR.slice {σ : Store} {w : World} {l : List AV} {b off cap sz : Nat} {f : Nat → Value} (hcap : l.length ≤ cap) (hsz : ∀ x ∈ l, x.cells.length = sz) (hσ : σ b = none) (hb : b < w.heap.size)
    (hc : ∀ i, i < l.length * sz → w.cell? ⟨b, off + i, none⟩ = some (f i)) (h1 : ∀ i, i < l.length * sz → (f i).oneCell' = true) (hv : ∀ i y, (l.flatMap AV.cells)[i]? = some y → VR σ w y (f i)) {i h : Nat} (hih : i ≤ h) (hl : h ≤ l.length) :
    VR σ w (.sl sz ((l.drop i).take (h - i))) (.slice (some ⟨b, off + i * sz, none⟩) (h - i) (cap - i)) := by
  have hlen : ((l.drop i).take (h - i)).length = h - i := by simp; omega
  have := VR.sl (σ := σ) (w := w) ((l.drop i).take (h - i)) b (off + i * sz) (cap - i) sz (fun j => f (i * sz + j)) (by rw [hlen]; omega)
    (fun x hx => hsz x (List.mem_of_mem_drop (List.mem_of_mem_take hx))) hσ hb (fun j hj => by
      rw [hlen] at hj
      rw [Nat.add_assoc]
      refine hc _ ?_
      have h1 : (i + (h - i)) * sz ≤ l.length * sz := Nat.mul_le_mul_right _ (by omega)
      rw [Nat.add_mul] at h1
      omega) (fun j hj => by
      rw [hlen] at hj
      refine h1 _ ?_
      have h1 : (i + (h - i)) * sz ≤ l.length * sz := Nat.mul_le_mul_right _ (by omega)
      rw [Nat.add_mul] at h1
      omega) (fun j y hy => by
      rw [flat_take (fun x hx => hsz x (List.mem_of_mem_drop hx)), flat_drop hsz, List.getElem?_take] at hy
      split at hy
      · rw [List.getElem?_drop] at hy
        exact hv _ _ hy
      · cases hy)
  rw [hlen] at this
  exact this

/-- An operand that may be absent. -/
def OptVR (σ : Store) (w : World) : Option AV → Option Value → Prop
  | none, none => True
  | some a, some v => VR σ w a v
  | _, _ => False

/-- Absent and present bounds, as values. -/
theorem boundA_val {σ : Store} {w : World} {d : Nat} {o : Option AV} {vo : Option Value} {K : Int → Prop} (ho : OptVR σ w o vo) (h : boundA d o K) : (vo = none ∧ K d) ∨ ∃ k i, vo = some (.int k i) ∧ K i := by
  unfold boundA at h
  split at h
  · cases vo with
    | none => exact .inl ⟨rfl, h⟩
    | some v => exact ho.elim
  · cases vo with
    | none => exact ho.elim
    | some v => cases ho; exact .inr ⟨_, _, rfl, h⟩
  · exact h.elim

theorem run_bounds {w : World} {isS : Bool} {len cap : Nat} {vlo vhi : Option Value} {i h : Int} (hlo : (vlo = none ∧ i = 0) ∨ ∃ k, vlo = some (.int k i)) (hhi : (vhi = none ∧ h = len) ∨ ∃ k, vhi = some (.int k h))
    (h0 : 0 ≤ i) (h1 : i ≤ h) (h2 : h ≤ cap) : (Instr.sliceBounds isS len cap vlo vhi none).run P w = .ok (i.toNat, h.toNat, cap) w := by
  rcases hlo with ⟨rfl, rfl⟩ | ⟨k, rfl⟩ <;> rcases hhi with ⟨rfl, rfl⟩ | ⟨k', rfl⟩
  · simp [Instr.sliceBounds]
  · have : (0 : Int) ≤ h := by omega
    simp [Instr.sliceBounds, Instr.sliceBound, asIntOf, this, h2]
  · simp [Instr.sliceBounds, Instr.sliceBound, asIntOf, h0, h1]
  · have a1 : (0 : Int) ≤ h := by omega
    simp [Instr.sliceBounds, Instr.sliceBound, asIntOf, a1, h2, h0]
    intro hc
    omega

theorem two_bounds {σ : Store} {w : World} {n : Nat} {lo hi : Option AV} {vlo vhi : Option Value} {K : Int → Int → Prop}
    (hlo : OptVR σ w lo vlo)
    (hhi : OptVR σ w hi vhi) (h : boundA n hi fun h => boundA 0 lo fun i => K h i) :
    ∃ hh i : Int, ((vhi = none ∧ hh = (n : Int)) ∨ ∃ k, vhi = some (.int k hh)) ∧ ((vlo = none ∧ i = 0) ∨ ∃ k, vlo = some (.int k i)) ∧ K hh i := by
  rcases boundA_val hhi h with ⟨e1, h⟩ | ⟨k1, hh, e1, h⟩ <;> rcases boundA_val hlo h with ⟨e2, h⟩ | ⟨k2, i, e2, h⟩
  · exact ⟨_, _, .inl ⟨e1, rfl⟩, .inl ⟨e2, rfl⟩, h⟩
  · exact ⟨_, _, .inl ⟨e1, rfl⟩, .inr ⟨_, e2⟩, h⟩
  · exact ⟨_, _, .inr ⟨_, e1⟩, .inl ⟨e2, rfl⟩, h⟩
  · exact ⟨_, _, .inr ⟨_, e1⟩, .inr ⟨_, e2⟩, h⟩

theorem sliceA_sound (hT : TabOk P T) {σ : Store} {w : World} {t : TypeId} {x : AV} {vx : Value} {lo hi : Option AV} {vlo vhi : Option Value} {K : AV → Prop} (hx : VR σ w x vx)
    (hlo : OptVR σ w lo vlo)
    (hhi : OptVR σ w hi vhi) (h : sliceA T t x lo hi K) : ∃ v, (Instr.sliceAt t vx vlo vhi none).run P w = .ok v w ∧ ∃ a, K a ∧ VR σ w a v := by
  unfold sliceA at h
  split at h
  case h_2 => exact h.elim
  rename_i ti hti
  obtain ⟨⟨d, hd, hk⟩, _⟩ := hT t ti hti
  split at h
  · rename_i e sz l he
    rw [he] at hk
    have := tk_slice hk
    subst this
    split at h
    case h_2 => exact h.elim
    rename_i ei hei
    split at h
    case h_2 => exact h.elim
    rename_i hsz
    have hsz := Nat.eq_of_beq_eq_true hsz
    subst hsz
    obtain ⟨hh, i, b1, b2, h0, h1, h2, hK⟩ := two_bounds hlo hhi h
    cases hx with
    | sl0 sz a cap =>
      simp only [List.length_nil] at h2 b1
      have hr := run_bounds (P := P) (w := w) (isS := true) (len := 0) (cap := cap) b2 (by simpa using b1) h0 h1 (by omega)
      have hi0 : i.toNat = 0 := by omega
      have hh0 : hh.toNat = 0 := by omega
      rw [hi0, hh0] at hr hK
      refine ⟨_, by simp only [Instr.sliceAt, Instr.slice, Sem.run_bind, run_underlying' hd, Result.andThen_ok, hr, run_sizeOf' hT hei, Sem.run_pure]; rfl, _, hK, ?_⟩
      simp only [List.drop_nil, List.take_nil]
      exact .sl0 _ _ _
    | sl _ b off cap _ f hcap hsz hσ hb hc hone hv =>
      have hr := run_bounds (P := P) (w := w) (isS := true) (len := l.length) (cap := cap) b2 b1 h0 h1 (by omega)
      refine ⟨_, by simp only [Instr.sliceAt, Instr.slice, Sem.run_bind, run_underlying' hd, Result.andThen_ok, hr, run_sizeOf' hT hei, Sem.run_pure]; rfl, _, hK, ?_⟩
      have hs := VR.slice hcap hsz hσ hb hc hone hv (i := i.toNat) (h := hh.toNat) (by omega) (by omega)
      by_cases hci : cap = i.toNat
      · rw [if_pos hci]
        have e0 : hh.toNat - i.toNat = 0 := by omega
        rw [e0, List.take_zero]
        exact .sl0 _ _ _
      · rw [if_neg hci]
        simp only [Option.map_some, add_at]
        exact hs
  · rename_i e b off len sz he
    rw [he] at hk
    have := tk_slice hk
    subst this
    split at h
    case h_2 => exact h.elim
    rename_i ei hei
    split at h
    case h_2 => exact h.elim
    rename_i hsz
    have hsz := Nat.eq_of_beq_eq_true hsz
    subst hsz
    obtain ⟨hh, i, b1, b2, h0, h1, h2, h3, hK⟩ := two_bounds hlo hhi h
    cases hx with
    | arr _ _ _ _ cap c t' fz hcap hb hroom =>
      have hr := run_bounds (P := P) (w := w) (isS := true) (len := len) (cap := cap) b2 b1 h0 h1 (by omega)
      refine ⟨_, by simp only [Instr.sliceAt, Instr.slice, Sem.run_bind, run_underlying' hd, Result.andThen_ok, hr, run_sizeOf' hT hei, Sem.run_pure]; rfl, _, hK, ?_⟩
      by_cases hci : cap = i.toNat
      · have hi0 : i.toNat = 0 := by omega
        rw [if_pos hci, hi0, Nat.zero_mul, Nat.add_zero, Nat.sub_zero]
        exact .arr b off _ _ _ c t' fz (by omega) hb (by rw [Nat.sub_zero]; exact hroom)
      · rw [if_neg hci]
        simp only [Option.map_some, add_at]
        refine .arr b _ _ _ _ c t' fz (by omega) hb ?_
        have : i.toNat * ei.size + (cap - i.toNat) * ei.size = cap * ei.size := by rw [← Nat.add_mul]; congr 1; omega
        omega
  · rename_i s hs
    rw [hs] at hk
    have := tk_string hk
    subst this
    cases hx
    obtain ⟨hh, i, b1, b2, h0, h1, h2, hK⟩ := two_bounds hlo hhi h
    have hr := run_bounds (P := P) (w := w) (isS := false) (len := s.size) (cap := s.size) b2 b1 h0 h1 (by omega)
    exact ⟨_, by simp only [Instr.sliceAt, Instr.slice, Sem.run_bind, run_underlying' hd, Result.andThen_ok, hr, Sem.run_pure, Option.isSome_none, Bool.false_eq_true, if_false], _, hK, .val _⟩
  · rename_i e he
    rw [he] at hk
    have := tk_slice hk
    subst this
    split at h
    case h_2 => exact h.elim
    rename_i ei hei
    have h' : boundA ((0 : Nat)) hi fun h => boundA 0 lo fun i => 0 ≤ i ∧ i ≤ h ∧ h ≤ ((0 : Nat) : Int) ∧ K (.val (.slice none 0 0)) := by
      unfold boundA at h ⊢
      split at h
      · split at h
        · obtain ⟨h1, h2, h3⟩ := h; exact ⟨by omega, by omega, by omega, h3⟩
        · obtain ⟨h1, h2, h3⟩ := h; exact ⟨by omega, by omega, by omega, h3⟩
        · exact h.elim
      · split at h
        · obtain ⟨h1, h2, h3⟩ := h; exact ⟨by omega, by omega, by omega, h3⟩
        · obtain ⟨h1, h2, h3⟩ := h; exact ⟨by omega, by omega, by omega, h3⟩
        · exact h.elim
      · exact h.elim
    obtain ⟨hh, i, b1, b2, h0, h1, h2, hK⟩ := two_bounds hlo hhi h'
    cases hx
    have hr := run_bounds (P := P) (w := w) (isS := true) (len := 0) (cap := 0) b2 b1 h0 h1 (by omega)
    have hi0 : i.toNat = 0 := by omega
    have hh0 : hh.toNat = 0 := by omega
    rw [hi0, hh0] at hr
    exact ⟨_, by simp only [Instr.sliceAt, Instr.slice, Sem.run_bind, run_underlying' hd, Result.andThen_ok, hr, run_sizeOf' hT hei, Sem.run_pure]; rfl, _, hK, .val _⟩
  · exact h.elim

end Go.Cr
