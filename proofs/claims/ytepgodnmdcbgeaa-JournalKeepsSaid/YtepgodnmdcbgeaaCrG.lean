/-
The abstract layer, part 7: append and copy; rows that are made: the reckonings are sound.
No statement of the program; no condition.
-/
import Derived.Test.YtepgodnmdcbgeaaCrF

namespace Go.Cr
open Go Go.RowKit

variable {P : Program} {T : Tab}

/-- A source of append or copy: its cells as values, in every world with the same heap. -/
theorem srcA_sound {σ : Store} {w : World} {sz : Nat} {x : AV} {vx : Value} {K : List AV → Nat → Prop} (hrel : Rel σ w) (hx : VR σ w x vx) (h : srcA sz x σ K) :
    ∃ (news : List AV) (m : Nat) (vs : List Value), K news m ∧ vs.length = m * sz ∧ vs.length = news.length ∧ (∀ i y, news[i]? = some y → VR σ w y (vs.getD i undefV)) ∧ (∀ v ∈ vs, v.oneCell' = true) ∧
      (∀ w' : World, (Builtin.lenOf vx).run P w' = .ok m w') ∧ ∀ w' : World, w'.heap = w.heap → (Builtin.firstCells sz m vx).run P w' = .ok vs.toArray w' := by
  have mk : ∀ {b off : Nat} {cs : List AV} {vs : List Value} {m cap : Nat}, CellsAt σ w b off cs vs → cs.length = m * sz →
      vs.length = m * sz ∧ vs.length = cs.length ∧ (∀ i y, cs[i]? = some y → VR σ w y (vs.getD i undefV)) ∧ (∀ v ∈ vs, v.oneCell' = true) ∧
      ∀ w' : World, w'.heap = w.heap → (Builtin.firstCells sz m (.slice (some ⟨b, off, none⟩) m cap)).run P w' = .ok vs.toArray w' := by
    intro b off cs vs m cap hc hl
    refine ⟨hc.1.trans hl, hc.1, fun i y hy => ?_, fun v hv => ?_, fun w' hw => ?_⟩
    · have hi : i < vs.length := by rw [hc.1]; exact lt_of_get hy
      exact hc.2.2 i y _ hy (by simp [List.getD, List.getElem?_eq_getElem hi])
    · obtain ⟨j, hj, rfl⟩ := List.mem_iff_getElem.1 hv
      exact (hc.2.1 j _ (List.getElem?_eq_getElem hj)).2
    · refine run_firstCells_some w' sz m _ _ _ vs (hc.1.trans hl) (fun j v hj => ?_)
      rw [add_at]
      have := (hc.2.1 j v hj).1
      unfold World.cell? at this ⊢
      rw [hw]; exact this
  unfold srcA at h
  split at h
  · rename_i sz' l
    split at h
    case h_2 => exact h.elim
    rename_i hsz
    have hsz := Nat.eq_of_beq_eq_true hsz
    subst hsz
    cases hx with
    | sl0 sz a cap =>
      refine ⟨_, _, [], h, by simp, by simp, by simp, by simp, fun _ => rfl, fun w' _ => ?_⟩
      cases a with
      | none => exact run_firstCells_none w' _ _ _ _
      | some ad => exact run_firstCells_some w' _ _ ad _ _ [] (by simp) (by simp)
    | sl _ b off cap _ f hcap hsz hσ hb hc h1 hv =>
      have hl := flat_length hsz
      have hca := CellsAt.of_fun (σ := σ) (w := w) (b := b) (off := off) (cs := l.flatMap AV.cells) f (fun i hi => ⟨hc i (by rw [← hl]; exact hi), h1 i (by rw [← hl]; exact hi)⟩) hv
      obtain ⟨m1, m2, m3, m4, m5⟩ := mk (cap := cap) hca hl
      exact ⟨_, _, _, h, m1, m2, m3, m4, fun _ => rfl, m5⟩
  · rename_i b off len sz'
    split at h
    case h_2 => exact h.elim
    rename_i hsz
    have hsz := Nat.eq_of_beq_eq_true hsz
    subst hsz
    obtain ⟨cs, hσ, hle, hK⟩ := h
    cases hx with
    | arr _ _ _ _ cap c t fz hcap hb hroom =>
      obtain ⟨vs, hca⟩ := CellsAt.of_row hrel (off := off) (n := len * sz') hσ hle
      obtain ⟨m1, m2, m3, m4, m5⟩ := mk (cap := cap) (m := len) hca (by rw [List.length_take, List.length_drop]; exact Nat.min_eq_left (by omega))
      exact ⟨_, _, _, hK, m1, m2, m3, m4, fun _ => rfl, m5⟩
  · cases hx
    exact ⟨_, _, [], h, by simp, by simp, by simp, by simp, fun _ => rfl, fun w' _ => run_firstCells_none w' _ _ _ _⟩
  · rename_i s
    obtain ⟨rfl, hK⟩ := h
    cases hx
    refine ⟨_, _, byteCells s, hK, by rw [byteCells_length, Nat.mul_one], by simp [byteCells], fun i y hy => ?_, fun u hu => ?_, fun _ => rfl, fun w' _ => firstCells_string s w'⟩
    · rw [List.getElem?_map] at hy
      cases hc : s.data.toList[i]? with
      | none => rw [hc] at hy; simp at hy
      | some c =>
        rw [hc] at hy
        simp only [Option.map_some, Option.some.injEq] at hy
        subst hy
        have e : (byteCells s).getD i undefV = .int .u8 c.toNat := by
          unfold byteCells
          rw [List.getD_eq_getElem?_getD, List.getElem?_map, hc]; rfl
        rw [e]; exact .val _
    · obtain ⟨_, _, rfl⟩ := List.mem_map.1 hu
      rfl
  · exact h.elim

theorem VR.arr_inv {σ : Store} {w : World} {b off len sz : Nat} {v : Value} (h : VR σ w (.arr b off len sz) v) : ∃ (cap : Nat) (c : Array Value) (t : TypeId) (fz : Nat × Nat),
    v = .slice (some ⟨b, off, none⟩) len cap ∧ len ≤ cap ∧ w.heap[b]? = some (.cells c t fz) ∧ off + cap * sz ≤ c.size := by
  cases h with
  | arr _ _ _ _ cap c t fz hcap hb hroom => exact ⟨cap, c, t, fz, rfl, hcap, hb, hroom⟩

/-- The kinds of type that the second argument of append may have. -/
def srcKind (T : Tab) (t : TypeId) : Bool := match T.get t with
  | some ti => match ti.kind with
    | .slice _ | .string => true
    | _ => false
  | none => false

theorem srcKind_ok (hT : TabOk P T) {t : TypeId} (h : srcKind T t = true) : (∃ e', P.underlying t = some (.slice e')) ∨ P.underlying t = some .string := by
  unfold srcKind at h
  split at h
  · rename_i ti hti
    obtain ⟨⟨d, hd, hk⟩, _⟩ := hT t ti hti
    split at h
    · rename_i e he; rw [he] at hk; have := tk_slice hk; subst this; exact .inl ⟨_, hd⟩
    · rename_i he; rw [he] at hk; have := tk_string hk; subst this; exact .inr hd
    · cases h
  · cases h

/-- A new row: cells that are known, and others behind. -/
theorem grown_row {σ : Store} {w : World} {cs : List AV} {ys : List Value} {zs : Array Value} {e : TypeId} {n cap sz : Nat} {K : AV → Store → Prop} (hrel : Rel σ w) (hl : ys.length = cs.length)
    (hv : ∀ i y, cs[i]? = some y → VR σ w y (ys.getD i undefV)) (h1 : ∀ v ∈ ys, v.oneCell' = true) (hn : cs.length = n * sz) (hcap : n ≤ cap) (hz : zs.size = (cap - n) * sz)
    (h : newA cs (fun b => .arr b 0 n sz) σ K) : Post σ w K (.slice (some ⟨w.heap.size, 0, none⟩) n cap) (w.alloc (.cells (ys.toArray ++ zs) e)) := by
  have get : ∀ i, i < cs.length → (ys.toArray ++ zs).getD i undefV = ys.getD i undefV := by
    intro i hi
    have hi' : i < ys.length := by omega
    simp [Array.getD_eq_getD_getElem?, List.getD, Array.getElem?_append, hi']
  refine new_row hrel (by simp; omega) (fun i hi => ?_) (fun i y hy => ?_) h (fun σ' => ?_)
  · rw [get i hi]
    refine h1 _ ?_
    rw [List.getD_eq_getElem?_getD, List.getElem?_eq_getElem (by omega)]
    exact List.getElem_mem _
  · rw [get i (lt_of_get hy)]; exact hv i y hy
  · refine .arr _ _ _ _ _ _ e (0, 0) hcap (heap_alloc_eq w _) ?_
    have : n * sz + (cap - n) * sz = cap * sz := by rw [← Nat.add_mul]; congr 1; omega
    simp only [Array.size_append, List.size_toArray, hl, hn, hz]
    omega

theorem appendA_sound (hT : TabOk P T) {σ : Store} {w : World} {t t2 ty : TypeId} {s x : AV} {vs vx : Value} {K : AV → Store → Prop} (hk2 : srcKind T t2 = true) (hrel : Rel σ w) (hs : VR σ w s vs) (hx : VR σ w x vx)
    (h : appendA T t s x σ K) : ∃ v w', (Builtin.append_ #[t, t2] ty #[vs, vx]).run P w = .ok v w' ∧ Post σ w K v w' := by
  unfold appendA at h
  split at h
  case h_2 => exact h.elim
  rename_i ti hti
  split at h
  case h_2 => exact h.elim
  rename_i e he
  split at h
  case h_2 => exact h.elim
  rename_i ei hei
  obtain ⟨⟨d, hd, hk⟩, _⟩ := hT t ti hti
  rw [he] at hk
  have := tk_slice hk
  subst this
  obtain ⟨_, ⟨i, hi, hi1, hi2, hiz⟩, hzs⟩ := hT e ei hei
  obtain ⟨news, m, xs, h, x1, x2, x3, x4, x5, x6⟩ := srcA_sound (P := P) hrel hx h
  have hsrc : Src P i.size t2 vx m xs w := ⟨srcKind_ok hT hk2, x5, by rw [hi1]; exact x6 w rfl, by rw [hi1]; exact x6 w.drew rfl, by rw [hi1]; exact x1, x4⟩
  have hmax : ∀ n : Nat, n ≤ 9223372036854775807 → ((n : Nat) : Int) ≤ 9223372036854775807 := fun n hn => by omega
  split at h
  · obtain ⟨hroom, hm63, h0, h1⟩ := h
    cases hs
    rcases Nat.eq_zero_or_pos m with hm | hm
    · subst hm
      have hxs : xs = [] := List.eq_nil_of_length_eq_zero (by simpa using x1)
      subst hxs
      refine ⟨.slice none 0 0, w, ?_, .same hrel (.val _) (h0 rfl)⟩
      rcases srcKind_ok hT hk2 with ⟨e', hk⟩ | hk <;>
        simp [Builtin.append_, run_underlying' hd, run_underlying' hk, sizeOf, typeInfo, hi, x5, hsrc.cells]
    · have hr := run_append_grow_src (P := P) w t t2 ty e i ei.zero hd hi hiz none 0 0 [] (by exact run_firstCells_none w.drew _ _ _ _) vx m xs hsrc (by omega) (by simpa using hmax m hm63)
        (by rw [hi2]; exact growslice_fits (by omega) (by simpa [roomN] using hroom))
      simp only [Nat.zero_add, List.nil_append] at hr
      refine ⟨_, _, hr, ?_⟩
      have hrd := hrel.drew
      have hp : Post σ w.drew K (.slice (some ⟨w.heap.size, 0, none⟩) m (grownCap w m 0 e)) (w.drew.alloc (.cells (xs.toArray ++ Builtin.zeroCells ei.zero.cells (grownCap w m 0 e - m)) e)) := by
        refine grown_row (w := w.drew) hrd x2 (fun i y hy => (x3 i y hy).step (Step.drew σ w)) x4 (by rw [← x2]; exact x1) (grownCap_ge w m 0 e) ?_ (h1 hm)
        rw [size_zeroCells, hzs]
      obtain ⟨a, σ', p1, p2, p3, p4⟩ := hp
      exact ⟨a, σ', p1, p2, p3, (Step.drew σ w).trans p4⟩
  · rename_i b len sz _
    obtain ⟨cs, hσ, rfl, hcl, hroom, h63, hK⟩ := h
    obtain ⟨cap, c, t', fz, rfl, hcap, hb, hroomc⟩ := hs.arr_inv
    obtain ⟨c', t'', fz', hw, hcs, hf, ho, hc⟩ := hrel b _ hσ
    rw [hb] at hw
    injection hw with hw
    injection hw with e1 e2 e3
    subst e1 e2 e3
    have hdel : Rel (σ.del b) w := hrel.less (fun x o hx => by
      simp only [Store.del] at hx
      split at hx
      · cases hx
      · exact hx)
    have hdn : ∀ x, σ x = none → (σ.del b) x = none := fun x hx => by simp only [Store.del]; split <;> first | rfl | exact hx
    by_cases hfit : len + m ≤ cap
    · -- there is room
      have hle : (len + m) * ei.size ≤ cap * ei.size := Nat.mul_le_mul_right _ hfit
      rw [Nat.add_mul] at hle
      obtain ⟨w', r1, r2, r3, r4, r5, r6, r7⟩ := run_store_row P b (len * ei.size) t' fz xs 0 c w hb (by omega) (fun j hj => hf j (by omega)) x4
      have hst : (storeCells ⟨b, 0 + len * i.size, none⟩ xs).run P w = .ok () w' := by rw [Nat.zero_add, hi1]; exact r1
      have happ : (Builtin.append_ #[t, t2] ty #[.slice (some ⟨b, 0, none⟩) len cap, vx]).run P w = .ok (.slice (some ⟨b, 0, none⟩) (len + m) cap) w' := by
        rcases srcKind_ok hT hk2 with ⟨e', hk⟩ | hk <;>
          simp [Builtin.append_, run_underlying' hd, run_underlying' hk, sizeOf, typeInfo, hi, x5, hsrc.cells, hfit, add_at] <;> rw [← Nat.zero_add (len * i.size), hst] <;> rfl
      have hstep : Step σ w ((σ.del b).set b (.row (cs ++ news))) w' := by
        have e : (σ.del b).set b (.row (cs ++ news)) = σ.set b (.row (cs ++ news)) := by funext x; simp only [Store.set, Store.del]; split <;> rfl
        rw [e]
        exact Step.write hσ r4 r5 r6 r7 r3 (fun c' t2' fz' e => by
          rw [hb] at e
          injection e with e
          injection e with e1 e2 e3
          subst e1 e2
          exact ⟨_, fz, r2, putCells_size _ _ _⟩)
      have hlen : cs.length + news.length ≤ c.size := by rw [hcl, ← x2, x1]; omega
      have hpb := put_behind hc x2 x3 hlen
      rw [hcl] at hpb
      refine ⟨_, _, happ, _, _, hK b (by simp [Store.del]), ?_, ?_, hstep⟩
      · exact .arr b 0 _ _ cap _ t' fz hfit r2 (by rw [putCells_size]; exact hroomc)
      · have e : (σ.del b).set b (.row (cs ++ news)) = σ.set b (.row (cs ++ news)) := by funext x; simp only [Store.set, Store.del]; split <;> rfl
        rw [e] at hstep ⊢
        refine hrel.write hstep r3 ⟨_, t', fz, r2, by rw [putCells_size, List.length_append]; exact hlen, by rw [putCells_size]; exact hf, fun j hj => ?_, fun j y hy => (hpb j y hy).step hstep⟩
        rw [List.length_append] at hj
        rw [putCells_getD _ _ _ (by omega)]
        split
        · rw [List.getD_eq_getElem?_getD, List.getElem?_eq_getElem (by omega)]
          exact x4 _ (List.getElem_mem _)
        · exact ho j (by omega)
    · -- a new row
      obtain ⟨olds, hca⟩ := CellsAt.of_row hrel (off := 0) (n := len * ei.size) hσ (by omega)
      have hcs' : (cs.drop 0).take (len * ei.size) = cs := by rw [List.drop_zero, List.take_of_length_le (by omega)]
      rw [hcs'] at hca
      have hol : olds.length = len * ei.size := by rw [hca.1, hcl]
      have hold : (Builtin.firstCells i.size len (.slice (some ⟨b, 0, none⟩) len cap)).run P w.drew = .ok olds.toArray w.drew := by
        rw [hi1]
        refine run_firstCells_some w.drew _ _ _ _ _ olds hol (fun j v hj => ?_)
        rw [add_at]; exact (hca.2.1 j v hj).1
      have hr := run_append_grow_src (P := P) w t t2 ty e i ei.zero hd hi hiz (some ⟨b, 0, none⟩) len cap olds hold vx m xs hsrc (by omega) (by simpa using hmax _ h63)
        (by rw [hi2]; exact growslice_fits (by omega) (by simpa [roomN] using hroom))
      refine ⟨_, _, hr, ?_⟩
      have hrd := hdel.drew
      have hstep0 := (Step.drew (σ.del b) w)
      have hp : Post (σ.del b) w.drew K (.slice (some ⟨w.heap.size, 0, none⟩) (len + m) (grownCap w (len + m) cap e)) (w.drew.alloc (.cells ((olds ++ xs).toArray ++ Builtin.zeroCells ei.zero.cells (grownCap w (len + m) cap e - (len + m))) e)) := by
        refine grown_row (w := w.drew) hrd (by rw [List.length_append, List.length_append, hca.1, x2]) (fun j y hy => ?_) (fun v hv => ?_) ?_ (grownCap_ge w (len + m) cap e) (by rw [size_zeroCells, hzs]) hK
        · by_cases hj : j < cs.length
          · rw [List.getElem?_append_left hj] at hy
            have hjo : j < olds.length := by rw [hca.1]; exact hj
            have e1 : (olds ++ xs).getD j undefV = olds[j] := by simp [List.getD, List.getElem?_append, hjo]
            rw [e1]
            exact ((hca.2.2 j y _ hy (List.getElem?_eq_getElem hjo)).less hdn).step hstep0
          · rw [List.getElem?_append_right (by omega)] at hy
            have e1 : (olds ++ xs).getD j undefV = xs.getD (j - cs.length) undefV := by
              rw [List.getD_eq_getElem?_getD, List.getElem?_append_right (by rw [hca.1]; omega), hca.1, ← List.getD_eq_getElem?_getD]
            rw [e1]
            exact ((x3 _ y hy).less hdn).step hstep0
        · rcases List.mem_append.1 hv with hv | hv
          · obtain ⟨j, hj, rfl⟩ := List.mem_iff_getElem.1 hv
            exact (hca.2.1 j _ (List.getElem?_eq_getElem hj)).2
          · exact x4 v hv
        · rw [List.length_append, hcl, ← x2, x1, ← Nat.add_mul]
      obtain ⟨a, σ', p1, p2, p3, p4⟩ := hp
      exact ⟨a, σ', p1, p2, p3, ((Step.refl σ w).less hdn).trans (hstep0.trans p4)⟩
  · exact h.elim

end Go.Cr
