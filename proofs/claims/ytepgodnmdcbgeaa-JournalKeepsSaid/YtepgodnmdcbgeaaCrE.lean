/-
The abstract layer, part 5: the reckonings of part 4 are sound.
No statement of the program; no condition.
-/
import Derived.Test.YtepgodnmdcbgeaaCrD
import Derived.Deep.AppendSrc
import Derived.Laws.MakeOwn
import Derived.Laws.Slices

namespace Go.Cr
open Go Go.RowKit

variable {P : Program} {T : Tab}

theorem add_at (b off n : Nat) : (⟨b, off, none⟩ : Addr).add n = ⟨b, off + n, none⟩ := by unfold Addr.add; split <;> simp_all

theorem run_isAgg (hT : TabOk P T) {t : TypeId} {ti : TI} (h : T.get t = some ti) (w : World) : (isAgg t).run P w = .ok ti.agg w := by
  obtain ⟨⟨d, hd, hk⟩, _⟩ := hT t ti h
  have e : ti.agg = TI.agg ⟨tkOf d, 0, 0, .nilIface⟩ := by unfold TI.agg; rw [hk]
  rw [e]
  simp only [isAgg, Sem.run_bind, run_underlying' hd, Result.andThen_ok]
  cases d <;> rfl

theorem run_sizeOf' (hT : TabOk P T) {t : TypeId} {ti : TI} (h : T.get t = some ti) (w : World) : (sizeOf t).run P w = .ok ti.size w := by
  obtain ⟨_, ⟨i, hi, hs, _⟩, _⟩ := hT t ti h
  simp [sizeOf, typeInfo, hi, hs]

theorem run_zero' (hT : TabOk P T) {t : TypeId} {ti : TI} (h : T.get t = some ti) (w : World) : (zeroValue t).run P w = .ok ti.zero w := by
  obtain ⟨_, ⟨i, hi, _, _, hz⟩, _⟩ := hT t ti h
  simp [zeroValue, typeInfo, hi, hz]

/-! ### Loads -/

theorem loads_at (hT : TabOk P T) {σ : Store} {w : World} {t : TypeId} {ti : TI} (h : T.get t = some ti) {b off : Nat} {cs : List AV} {vs : List Value} {K : AV → Store → Prop} (hrel : Rel σ w)
    (hc : CellsAt σ w b off cs vs) (hk : match ti.agg with
      | true => ti.size ≤ cs.length ∧ K (.agg (cs.take ti.size)) σ
      | false => ∃ x, cs[0]? = some x ∧ K x σ) : ∃ v, (loadVar t ⟨b, off, none⟩).run P w = .ok v w ∧ Post σ w K v w := by
  unfold loadVar
  simp only [Sem.run_bind, run_isAgg hT h, Result.andThen_ok]
  split at hk
  · rename_i ha
    obtain ⟨h1, h2⟩ := hk
    have hs := hc.sub 0 ti.size
    simp only [Nat.add_zero, List.drop_zero] at hs
    have hl : (cs.take ti.size).length = ti.size := by simp; omega
    rw [ha]
    simp only [if_true, Sem.run_bind, run_sizeOf' hT h, Result.andThen_ok, hs.loads hl, Sem.run_pure]
    exact ⟨_, rfl, .same hrel hs.agg h2⟩
  · rename_i ha
    obtain ⟨x, hx, hk⟩ := hk
    have hlt : 0 < vs.length := by rw [hc.1]; exact lt_of_get hx
    have hv : vs[0]? = some vs[0] := List.getElem?_eq_getElem hlt
    have hcell := (hc.2.1 0 _ hv).1
    simp only [Nat.add_zero] at hcell
    rw [ha]
    simp only [Bool.false_eq_true, if_false, run_load, hcell]
    exact ⟨_, rfl, .same hrel (hc.2.2 0 x _ hx hv) hk⟩

theorem loadA_sound (hT : TabOk P T) {σ : Store} {w : World} {t : TypeId} {a : AV} {va : Value} {K : AV → Store → Prop} (hrel : Rel σ w) (ha : VR σ w a va) (h : loadA T t a σ K) :
    ∃ v, (Instr.loadAt t va).run P w = .ok v w ∧ Post σ w K v w := by
  unfold loadA at h
  split at h
  case h_2 => exact h.elim
  rename_i ti hti
  split at h
  · rename_i b off
    cases ha
    obtain ⟨cs, hσ, h⟩ := h
    simp only [Instr.loadAt, Sem.run_bind, Instr.sureAddr, Sem.run_pure, Result.andThen_ok]
    have hle : off ≤ cs.length := by
      split at h
      · omega
      · rw [nth_eq] at h
        cases hx : cs[off]? with
        | none => rw [hx] at h; exact h.elim
        | some x => exact Nat.le_of_lt (lt_of_get hx)
    obtain ⟨vs, hc⟩ := CellsAt.of_row hrel (off := off) (n := cs.length - off) hσ (by omega)
    refine loads_at hT hti hrel hc ?_
    have e1 : (cs.drop off).take (cs.length - off) = cs.drop off := by rw [List.take_of_length_le]; simp
    rw [e1]
    split at h
    · rename_i hag
      rw [hag]
      exact ⟨by simp; omega, h.2⟩
    · rename_i hag
      rw [hag]
      rw [nth_eq] at h
      cases hx : cs[off]? with
      | none => rw [hx] at h; exact h.elim
      | some x => rw [hx] at h; exact ⟨x, by simpa using hx, h⟩
  · rename_i cs
    obtain ⟨b, off, vs, rfl, _, _, hc⟩ := CellsAt.of_iptr ha
    simp only [Instr.loadAt, Sem.run_bind, Instr.sureAddr, Sem.run_pure, Result.andThen_ok]
    refine loads_at hT hti hrel hc ?_
    split at h
    · rename_i hag; rw [hag]; exact h
    · rename_i hag
      rw [hag]
      rw [nth_eq] at h
      cases hx : cs[0]? with
      | none => rw [hx] at h; exact h.elim
      | some x => rw [hx] at h; exact ⟨x, rfl, h⟩
  · exact h.elim

/-! ### Stores -/

theorem VRs.toList {σ : Store} {w : World} {as : List AV} {vs : Array Value} (h : VRs σ w as vs) : vs.toList.length = as.length ∧ ∀ i y, as[i]? = some y → VR σ w y (vs.toList.getD i undefV) := by
  refine ⟨by simpa using h.1, fun i y hy => ?_⟩
  have := h.2 i y hy
  simpa [Array.getD_eq_getD_getElem?, List.getD] using this

/-- One row of the store written: cells within what is known. -/
theorem store_row {σ : Store} {w : World} {b off : Nat} {cs news : List AV} {vs : List Value} (hrel : Rel σ w) (hσ : σ b = some (.row cs)) (hl : vs.length = news.length)
    (hv : ∀ i y, news[i]? = some y → VR σ w y (vs.getD i undefV)) (h1 : ∀ v ∈ vs, v.oneCell' = true) (hk : off + news.length ≤ cs.length) :
    ∃ w', (storeCells ⟨b, off, none⟩ vs).run P w = .ok () w' ∧ Rel (σ.set b (.row (putA cs off news))) w' ∧ Step σ w (σ.set b (.row (putA cs off news))) w' := by
  obtain ⟨c, t, fz, hw, hcs, hf, ho, hc⟩ := hrel b _ hσ
  obtain ⟨w', r1, r2, r3, r4, r5, r6, r7⟩ := run_store_row P b off t fz vs 0 c w hw (by omega) (fun j hj => hf j (by omega)) h1
  simp only [Nat.add_zero] at r2
  have hstep : Step σ w (σ.set b (.row (putA cs off news))) w' := Step.write hσ r4 r5 r6 r7 r3 (fun c' t' fz' e => by
    rw [hw] at e
    injection e with e
    injection e with e1 e2 e3
    subst e1 e2
    exact ⟨_, fz, r2, putCells_size _ _ _⟩)
  refine ⟨w', r1, hrel.write hstep r3 ?_, hstep⟩
  refine ⟨_, t, fz, r2, by rw [putCells_size, putA_length]; exact hcs, by rw [putCells_size]; exact hf, ?_, ?_⟩
  · intro i hi
    rw [putA_length] at hi
    rw [putCells_getD _ _ _ (by omega)]
    split
    · have hlt : i - off < vs.length := by omega
      refine h1 _ ?_
      rw [List.getD_eq_getElem?_getD, List.getElem?_eq_getElem hlt]
      exact List.getElem_mem hlt
    · exact ho i hi
  intro i y hy
  exact (put_row hcs hc hl hv hk i y hy).step hstep

theorem storeA_sound (hT : TabOk P T) {σ : Store} {w : World} {t : TypeId} {a v : AV} {va vv : Value} {K : AV → Store → Prop} (hrel : Rel σ w) (ha : VR σ w a va) (hv : VR σ w v vv) (h : storeA T t a v σ K) :
    ∃ w', (Instr.storeAt t va vv).run P w = .ok () w' ∧ Post σ w K undefV w' := by
  unfold storeA at h
  split at h
  case h_2 => exact h.elim
  rename_i ti hti
  split at h
  case h_2 => exact h.elim
  rename_i b off hone
  cases ha
  split at h
  case h_2 => exact h.elim
  rename_i hsz
  obtain ⟨cs, hσ, hle, hk⟩ := h
  have hsz' := Nat.eq_of_beq_eq_true hsz
  have hvs := hv.cells (AV.top_of_ones hone)
  obtain ⟨l1, l2⟩ := hvs.toList
  obtain ⟨w', r1, r2, r3⟩ := store_row (P := P) hrel hσ l1 l2 (hv.ones hone) hle
  refine ⟨w', ?_, .top, _, hk, .top _, r2, r3⟩
  simp only [Instr.storeAt, Sem.run_bind, Instr.sureAddr, Sem.run_pure, Result.andThen_ok, storeVar, run_sizeOf' hT hti]
  have : vv.cells.size = ti.size := by rw [hvs.1]; exact hsz'
  simp only [this, ne_eq, not_true_eq_false, if_false, r1]

/-! ### Addresses -/

theorem fieldAddrA_sound (hT : TabOk P T) {σ : Store} {w : World} {s : TypeId} {x : AV} {vx : Value} {f : Nat} {K : AV → Prop} (hx : VR σ w x vx) (h : fieldAddrA T s x f K) :
    ∃ v, (Instr.fieldAt s vx f).run P w = .ok v w ∧ ∃ a, K a ∧ VR σ w a v := by
  unfold fieldAddrA at h
  split at h
  case h_2 => exact h.elim
  rename_i ti hti
  split at h
  case h_2 => exact h.elim
  rename_i fs hfs
  split at h
  case h_2 => exact h.elim
  rename_i off ft hf
  split at h
  case h_2 => exact h.elim
  rename_i fti hfti
  obtain ⟨⟨d, hd, hk⟩, _⟩ := hT s ti hti
  rw [hfs] at hk
  obtain ⟨fa, rfl, rfl⟩ := tk_struct hk
  rw [nth_eq, List.getElem?_map] at hf
  cases hfa : fa.toList[f]? with
  | none => rw [hfa] at hf; simp at hf
  | some fl =>
    rw [hfa] at hf
    simp only [Option.map_some, Option.some.injEq, Prod.mk.injEq] at hf
    obtain ⟨rfl, rfl⟩ := hf
    have hfa' : fa[f]? = some fl := by simpa using hfa
    have run : ∀ b o, fti.size ≠ 0 → (Instr.fieldAt s (.pointer (some ⟨b, o, none⟩)) f).run P w = .ok (.pointer (some ⟨b, o + fl.offset, none⟩)) w := by
      intro b o hne
      simp only [Instr.fieldAt, Sem.run_bind, run_underlying' hd, Result.andThen_ok, hfa', Instr.sureAddr, Sem.run_pure, fieldPlace, run_sizeOf' hT hfti, if_neg hne, add_at]
    split at h
    · rename_i b o hz
      cases hx
      exact ⟨_, run b o (fun e => by rw [e] at hz; cases hz), _, h, .val _⟩
    · rename_i cs hz
      obtain ⟨b, o, vs, rfl, hσ, hb, hc⟩ := CellsAt.of_iptr hx
      refine ⟨_, run b o (fun e => by rw [e] at hz; cases hz), _, h, ?_⟩
      have := hc.sub fl.offset (cs.length - fl.offset)
      have e1 : (cs.drop fl.offset).take (cs.length - fl.offset) = cs.drop fl.offset := by rw [List.take_of_length_le]; simp
      rw [e1] at this
      exact this.iptr hσ hb
    · exact h.elim

theorem indexAddrA_sound (hT : TabOk P T) {σ : Store} {w : World} {t : TypeId} {x i : AV} {vx vi : Value} {K : AV → Prop} (hx : VR σ w x vx) (hi : VR σ w i vi) (h : indexAddrA T t x i K) :
    ∃ v, (Instr.indexAt t vx vi).run P w = .ok v w ∧ ∃ a, K a ∧ VR σ w a v := by
  unfold indexAddrA at h
  split at h
  case h_2 => exact h.elim
  rename_i ti k i hti
  cases hi
  obtain ⟨⟨d, hd, hk⟩, _⟩ := hT t ti hti
  split at h
  · rename_i e he
    rw [he] at hk
    have := tk_slice hk
    subst this
    split at h
    case h_2 => exact h.elim
    rename_i ei hei
    have run : ∀ b off n cap, 0 ≤ i → i < (n : Nat) → (Instr.indexAt t (.slice (some ⟨b, off, none⟩) n cap) (.int k i)).run P w = .ok (.pointer (some ⟨b, off + i.toNat * ei.size, none⟩)) w := by
      intro b off n cap h0 h1
      simp [Instr.indexAt, asIntOf, run_underlying' hd, h0, h1, run_sizeOf' hT hei, add_at]
    split at h
    · rename_i sz l
      split at h
      case h_2 => exact h.elim
      rename_i hsz
      have hsz := Nat.eq_of_beq_eq_true hsz
      subst hsz
      obtain ⟨y, h0, hy, hK⟩ := h
      obtain ⟨b, off, cap, vs, rfl, hσ, hb, hc⟩ := CellsAt.of_sl hx hy
      have hlt := lt_of_get hy
      exact ⟨_, run _ _ _ _ h0 (by omega), _, hK, hc.iptr hσ hb⟩
    · rename_i b off len sz
      split at h
      case h_2 => exact h.elim
      rename_i hsz
      have hsz := Nat.eq_of_beq_eq_true hsz
      subst hsz
      obtain ⟨h0, h1, hK⟩ := h
      cases hx
      exact ⟨_, run _ _ _ _ h0 h1, _, hK, .val _⟩
    · exact h.elim
  · rename_i n e he
    rw [he] at hk
    have := tk_array hk
    subst this
    split at h
    case h_2 => exact h.elim
    rename_i ei hei
    have run : ∀ b off, 0 ≤ i → i < (n : Nat) → (Instr.indexAt t (.pointer (some ⟨b, off, none⟩)) (.int k i)).run P w = .ok (.pointer (some ⟨b, off + i.toNat * ei.size, none⟩)) w := by
      intro b off h0 h1
      simp [Instr.indexAt, asIntOf, run_underlying' hd, h0, h1, run_sizeOf' hT hei, add_at, Instr.sureAddr]
    split at h
    · rename_i b off
      obtain ⟨h0, h1, hK⟩ := h
      cases hx
      exact ⟨_, run _ _ h0 h1, _, hK, .val _⟩
    · rename_i cs
      obtain ⟨h0, h1, hK⟩ := h
      obtain ⟨b, o, vs, rfl, hσ, hb, hc⟩ := CellsAt.of_iptr hx
      refine ⟨_, run b o h0 h1, _, hK, ?_⟩
      have := hc.sub (i.toNat * ei.size) (cs.length - i.toNat * ei.size)
      have e1 : (cs.drop (i.toNat * ei.size)).take (cs.length - i.toNat * ei.size) = cs.drop (i.toNat * ei.size) := by rw [List.take_of_length_le]; simp
      rw [e1] at this
      exact this.iptr hσ hb
    · exact h.elim
  · exact h.elim

end Go.Cr
