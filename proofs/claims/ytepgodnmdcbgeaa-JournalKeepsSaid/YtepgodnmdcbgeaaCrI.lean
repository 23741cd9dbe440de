/-
The abstract layer, part 9: copy, conversions; one operation of the program, reckoned; that is sound.
No statement of the program; no condition.
-/
import Derived.Test.YtepgodnmdcbgeaaCrH
import Derived.Laws.BytesString

namespace Go.Cr
open Go Go.RowKit

variable {P : Program} {T : Tab}

theorem run_firstCells_take {w : World} {sz m k : Nat} {vx : Value} {vs : List Value} (hk : k ≤ m) (hl : vs.length = m * sz)
    (h : ∃ a cap, vx = .slice (some a) m cap ∧ ∀ j v, vs[j]? = some v → w.cell? (a.add j) = some v) : (Builtin.firstCells sz k vx).run P w = .ok (vs.take (k * sz)).toArray w := by
  obtain ⟨a, cap, rfl, hc⟩ := h
  have hle : k * sz ≤ m * sz := Nat.mul_le_mul_right _ hk
  refine run_firstCells_some w sz k a m cap _ (by rw [List.length_take]; omega) (fun j v hj => ?_)
  rw [List.getElem?_take] at hj
  split at hj
  · exact hc j v hj
  · cases hj

/-- What copy reads: the first cells of a source. -/
theorem srcA_take {σ : Store} {w : World} {sz : Nat} {x : AV} {vx : Value} {K : List AV → Nat → Prop} (hrel : Rel σ w) (hx : VR σ w x vx) (h : srcA sz x σ K) :
    ∃ (news : List AV) (m : Nat) (vs : List Value), K news m ∧ vs.length = m * sz ∧ vs.length = news.length ∧ (∀ i y, news[i]? = some y → VR σ w y (vs.getD i undefV)) ∧ (∀ v ∈ vs, v.oneCell' = true) ∧
      (Builtin.lenOf vx).run P w = .ok m w ∧ ∀ k, k ≤ m → (Builtin.firstCells sz k vx).run P w = .ok (vs.take (k * sz)).toArray w := by
  have mk : ∀ {b off : Nat} {cs : List AV} {vs : List Value} {m cap : Nat}, CellsAt σ w b off cs vs → cs.length = m * sz →
      vs.length = m * sz ∧ vs.length = cs.length ∧ (∀ i y, cs[i]? = some y → VR σ w y (vs.getD i undefV)) ∧ (∀ v ∈ vs, v.oneCell' = true) ∧
      ∀ k, k ≤ m → (Builtin.firstCells sz k (.slice (some ⟨b, off, none⟩) m cap)).run P w = .ok (vs.take (k * sz)).toArray w := by
    intro b off cs vs m cap hc hl
    refine ⟨hc.1.trans hl, hc.1, fun i y hy => ?_, fun v hv => ?_, fun k hk => ?_⟩
    · have hi : i < vs.length := by rw [hc.1]; exact lt_of_get hy
      exact hc.2.2 i y _ hy (by simp [List.getD, List.getElem?_eq_getElem hi])
    · obtain ⟨j, hj, rfl⟩ := List.mem_iff_getElem.1 hv
      exact (hc.2.1 j _ (List.getElem?_eq_getElem hj)).2
    · exact run_firstCells_take hk (hc.1.trans hl) ⟨_, _, rfl, fun j v hj => by rw [add_at]; exact (hc.2.1 j v hj).1⟩
  unfold srcA at h
  split at h
  · rename_i sz' l
    split at h
    case h_2 => exact h.elim
    rename_i hsz
    have hsz := Nat.eq_of_beq_eq_true hsz
    subst hsz
    cases hx with
    | sl0 sz a cap =>
      refine ⟨_, _, [], h, by simp, by simp, by simp, by simp, rfl, fun k hk => ?_⟩
      obtain rfl : k = 0 := by simpa using hk
      cases a with
      | none => simpa using run_firstCells_none w _ _ _ _
      | some ad => simpa using run_firstCells_some w _ 0 ad _ _ [] (by simp) (by simp)
    | sl _ b off cap _ f hcap hsz hσ hb hc h1 hv =>
      have hl := flat_length hsz
      have hca := CellsAt.of_fun (σ := σ) (w := w) (b := b) (off := off) (cs := l.flatMap AV.cells) f (fun i hi => ⟨hc i (by rw [← hl]; exact hi), h1 i (by rw [← hl]; exact hi)⟩) hv
      obtain ⟨m1, m2, m3, m4, m5⟩ := mk (cap := cap) hca hl
      exact ⟨_, _, _, h, m1, m2, m3, m4, rfl, m5⟩
  · rename_i b off len sz'
    split at h
    case h_2 => exact h.elim
    rename_i hsz
    have hsz := Nat.eq_of_beq_eq_true hsz
    subst hsz
    obtain ⟨cs, hσ, hle, hK⟩ := h
    obtain ⟨cap, c, t, fz, rfl, hcap, hb, hroom⟩ := hx.arr_inv
    obtain ⟨vs, hca⟩ := CellsAt.of_row hrel (off := off) (n := len * sz') hσ hle
    obtain ⟨m1, m2, m3, m4, m5⟩ := mk (cap := cap) (m := len) hca (by rw [List.length_take, List.length_drop]; exact Nat.min_eq_left (by omega))
    exact ⟨_, _, _, hK, m1, m2, m3, m4, rfl, m5⟩
  · cases hx
    refine ⟨_, _, [], h, by simp, by simp, by simp, by simp, rfl, fun k hk => ?_⟩
    obtain rfl : k = 0 := by simpa using hk
    simpa using run_firstCells_none w _ _ _ _
  · rename_i s
    obtain ⟨rfl, hK⟩ := h
    cases hx
    refine ⟨_, _, byteCells s, hK, by rw [byteCells_length, Nat.mul_one], by simp [byteCells], fun i y hy => ?_, fun u hu => ?_, rfl, fun k hk => ?_⟩
    · rw [List.getElem?_map] at hy
      cases hc : s.data.toList[i]? with
      | none => rw [hc] at hy; simp at hy
      | some c =>
        rw [hc] at hy
        simp only [Option.map_some, Option.some.injEq] at hy
        subst hy
        have e : (byteCells s).getD i undefV = .int .u8 c.toNat := by
          unfold byteCells
          rw [List.getD_eq_getElem?_getD, List.getElem?_map, hc]; rfl
        rw [e]; exact .val _
    · obtain ⟨_, _, rfl⟩ := List.mem_map.1 hu
      rfl
    · simp only [Builtin.firstCells, Sem.run_pure, Nat.mul_one]
      congr 1
      apply Array.ext'
      simp [byteCells, ByteArray.data_extract]
  · exact h.elim

theorem copyA_sound (hT : TabOk P T) {σ : Store} {w : World} {t ty : TypeId} {ts : Array TypeId} (ht : ts[0]? = some t) {d x : AV} {vd vx : Value} {K : AV → Store → Prop} (hrel : Rel σ w) (hd : VR σ w d vd) (hx : VR σ w x vx)
    (h : copyA T t d x σ K) : ∃ v w', (Builtin.copy_ ts ty #[vd, vx]).run P w = .ok v w' ∧ Post σ w K v w' := by
  unfold copyA at h
  split at h
  case h_2 => exact h.elim
  rename_i ti b off len sz hti
  split at h
  case h_2 => exact h.elim
  rename_i e he
  split at h
  case h_2 => exact h.elim
  rename_i ei hei
  split at h
  case h_2 => exact h.elim
  rename_i hsz
  have hsz := Nat.eq_of_beq_eq_true hsz
  subst hsz
  obtain ⟨⟨d, hd', hk⟩, _⟩ := hT t ti hti
  rw [he] at hk
  have := tk_slice hk
  subst this
  obtain ⟨news, m, vs, ⟨cs, hσ, hle, hK⟩, x1, x2, x3, x4, x5, x6⟩ := srcA_take (P := P) hrel hx h
  obtain ⟨cap, c, t', fz, rfl, hcap, hb, hroom⟩ := hd.arr_inv
  have hmn : min m len ≤ m := Nat.min_le_left _ _
  have hmz : min m len * ei.size ≤ m * ei.size := Nat.mul_le_mul_right _ hmn
  have hl : (vs.take (min m len * ei.size)).length = (news.take (min m len * ei.size)).length := by rw [List.length_take, List.length_take, x2]
  have hnl : (news.take (min m len * ei.size)).length = min m len * ei.size := by rw [List.length_take, ← x2, x1]; exact Nat.min_eq_left hmz
  obtain ⟨w', r1, r2, r3⟩ := store_row (P := P) (off := off) (news := news.take (min m len * ei.size)) hrel hσ hl (fun i y hy => by
    rw [List.getElem?_take] at hy
    split at hy
    · rename_i hi
      have := x3 i y hy
      have e : (vs.take (min m len * ei.size)).getD i undefV = vs.getD i undefV := by
        rw [List.getD_eq_getElem?_getD, List.getElem?_take, if_pos hi, ← List.getD_eq_getElem?_getD]
      rw [e]; exact this
    · cases hy) (fun v hv => x4 v (List.mem_of_mem_take hv)) (by rw [hnl]; exact hle)
  refine ⟨_, w', ?_, _, _, hK, .val _, r2, r3⟩
  have hx6 := x6 (min m len) hmn
  have hst : (match (some ⟨b, off, none⟩ : Option Addr) with
      | some a => do storeCells a (vs.take (min m len * ei.size)).toArray.toList; pure (goInt (min m len))
      | none => pure (goInt (min m len)) : Sem Value).run P w = .ok (goInt (min m len)) w' := by
    simp only [Sem.run_bind, r1, Result.andThen_ok, Sem.run_pure]
  simp only [Builtin.copy_, ht, List.getElem?_toArray, List.getElem?_cons_zero, List.getElem?_cons_succ, Sem.run_bind, run_underlying' hd', Result.andThen_ok, x5, run_sizeOf' hT hei]
  have e1 : Nat.min m len = min m len := rfl
  rw [e1, hx6]
  simp only [Result.andThen_ok, r1, Sem.run_pure]
  rfl

theorem u8_flat (l : List UInt8) : (l.map u8).flatMap AV.cells = l.map u8 := by
  induction l with
  | nil => rfl
  | cons c l ih => simp only [List.map_cons, List.flatMap_cons, ih]; rfl

theorem foldl_push : ∀ (bs : List UInt8) (s : ByteArray), (bs.map fun b => ((b.toNat : Nat) : Int)).foldl (fun r n => r.push (UInt8.ofNat n.toNat)) s = ⟨s.data ++ bs.toArray⟩
  | [], s => by simp
  | b :: r, s => by
    simp only [List.map_cons, List.foldl_cons]
    rw [foldl_push r]
    simp [ByteArray.push]

/-- Cells that read as bytes, as a string. -/
theorem run_bytes {σ : Store} {w : World} {b off n c : Nat} {bs : List UInt8} {vs : List Value} (hc : CellsAt σ w b off (bs.map u8) vs) (hn : bs.length = n) :
    (Conv.bytesToString (.slice (some ⟨b, off, none⟩) n c)).run P w = .ok (.string ⟨bs.toArray⟩) w := by
  have hvs : vs = (bs.map fun b => ((b.toNat : Nat) : Int)).map (Value.int .u8) := by
    apply List.ext_getElem?
    intro i
    by_cases hi : i < bs.length
    · have h1 : i < vs.length := by rw [hc.1]; simpa using hi
      have h2 : (bs.map u8)[i]? = some (u8 bs[i]) := by simp [hi]
      have := hc.2.2 i _ _ h2 (List.getElem?_eq_getElem h1)
      rw [List.getElem?_eq_getElem h1]
      unfold u8 at this
      generalize hv : vs[i] = v at this
      cases this
      simp [hi]
    · rw [List.getElem?_eq_none (by rw [hc.1]; simp; omega), List.getElem?_eq_none (by simp; omega)]
  have hl := hc.loads (P := P) (n := n) (by simpa using hn)
  rw [hvs] at hl
  rw [run_bytesToString w _ n c _ hl, foldl_push]
  simp

def strCells (w : World) (s : ByteArray) (e : TypeId) : Array Value := (s.data.map fun b => Value.int .u8 b.toNat) ++ Array.replicate (grownCap w s.size 0 e - s.size) (.int .u8 0)

def strWorld (w : World) (s : ByteArray) (e : TypeId) : World := { w.drew with heap := w.heap.push (.cells (strCells w s e) e ((strCells w s e).size, (strCells w s e).size + 1)) }

theorem run_stringRow {w : World} {s d e : TypeId} {st : ByteArray} (hs : P.underlying s = some .string) (hd : P.underlying d = some (.slice e)) (he : P.underlying e = some (.int .u8)) :
    (convert s d (.string st)).run P w = .ok (.slice (some ⟨w.heap.size, 0, none⟩) st.size (grownCap w st.size 0 e)) (strWorld w st e) := by
  have hf : (Question.appendCap st.size 0 e).forced = false := rfl
  simp only [convert, Sem.run_bind, run_underlying' hs, run_underlying' hd, run_underlying' he, Result.andThen_ok, Conv.stringToBytes, run_choose, hf, Bool.false_eq_true, if_false, newRow, run_newObj, Sem.run_pure,
    markStringish, run_shape]
  have hsh : ({ w with heap := w.heap.push (Obj.cells (strCells w st e) e), drawn := w.drawn + 1 } : World).shape? w.heap.size = some (e, (strCells w st e).size) := by
    simp [World.shape?]
  show Result.andThen _ _ = _
  rw [show (({ w with heap := w.heap.push (Obj.cells ((st.data.map fun b => Value.int .u8 b.toNat) ++ Array.replicate ((Question.appendCap st.size 0 e).cut (w.tape w.drawn (.appendCap st.size 0 e)) - st.size) (.int .u8 0)) e), drawn := w.drawn + 1 } : World).shape? w.heap.size) = some (e, (strCells w st e).size) from hsh]
  simp only [run_freeze, Result.andThen_ok, World.freeze, Nat.one_ne_zero, if_false]
  congr 1
  unfold strWorld
  congr 1
  apply Array.ext_getElem?
  intro i
  simp only [Array.getElem?_modify, Array.getElem?_push]
  by_cases hi : w.heap.size = i
  · subst hi; simp [strCells, grownCap]
  · have : ¬ i = w.heap.size := fun e => hi e.symm
    simp [hi, this]

/-- A new row out of a string, taken as nobody's to write: what lies behind it bears the string's mark. -/
theorem stringRow {σ : Store} {w : World} {st : ByteArray} {e : TypeId} {K : AV → Store → Prop} (hrel : Rel σ w) (h : K (bys st.data.toList) σ) :
    Post σ w K (.slice (some ⟨w.heap.size, 0, none⟩) st.size (grownCap w st.size 0 e)) (strWorld w st e) := by
  have hlt : ∀ {x}, x < w.heap.size → (strWorld w st e).heap[x]? = w.heap[x]? := fun {x} hx => by
    show (w.heap.push _)[x]? = _
    rw [Array.getElem?_push, if_neg (by omega)]
  have hnew : (strWorld w st e).heap[w.heap.size]? = some (.cells (strCells w st e) e ((strCells w st e).size, (strCells w st e).size + 1)) := by
    show (w.heap.push _)[w.heap.size]? = _
    simp
  have hstep : Step σ w σ (strWorld w st e) :=
    { os := rfl, tape := rfl, output := rfl
      size := by show w.heap.size ≤ (w.heap.push _).size; simp
      keep := fun b hb hσ => ⟨hσ, hlt hb⟩
      shape := fun b c t fz hc => ⟨c, fz, (hlt (lt_of_heap hc)).trans hc, rfl⟩ }
  have hge : st.size ≤ grownCap w st.size 0 e := grownCap_ge w st.size 0 e
  have hsz : (strCells w st e).size = grownCap w st.size 0 e := by
    have : st.data.size = st.size := rfl
    simp only [strCells, Array.size_append, Array.size_map, Array.size_replicate]; omega
  have hget : ∀ i c, st.data.toList[i]? = some c → (strCells w st e).getD i undefV = .int .u8 c.toNat := fun i c hc => by
    have hi : i < st.data.size := by simpa using lt_of_get hc
    have hi2 : i < st.size := hi
    have hs : st.data[i]? = some c := by simpa using hc
    simp [strCells, Array.getD_eq_getD_getElem?, Array.getElem?_append, hi2]
    rw [(Array.getElem?_eq_some_iff.1 hs).2]
  refine ⟨_, σ, h, ?_, fun b o hb => (hrel b o hb).step hstep (hlt (hrel.lt hb)), hstep⟩
  have hlen : (st.data.toList.map u8).length = st.size := by simp
  have hflat : (st.data.toList.map u8).flatMap AV.cells = st.data.toList.map u8 := u8_flat _
  have := VR.sl (σ := σ) (w := strWorld w st e) (st.data.toList.map u8) w.heap.size 0 (grownCap w st.size 0 e) 1 (fun i => (strCells w st e).getD i undefV) (by rw [hlen]; exact hge) (fun x hx => by
      obtain ⟨c, _, rfl⟩ := List.mem_map.1 hx; rfl) (hrel.fresh (Nat.le_refl _)) (by show _ < (w.heap.push _).size; simp) (fun i hi => by
      rw [Nat.zero_add, cell_of_row' hnew]
      have : i < (strCells w st e).size := by rw [hsz]; rw [hlen] at hi; omega
      simp [Array.getD, this]) (fun i hi => by
      have hi' : i < st.data.toList.length := by rw [hlen] at hi; simp; have : st.data.size = st.size := rfl; omega
      show ((strCells w st e).getD i undefV).oneCell' = true
      rw [hget i _ (List.getElem?_eq_getElem hi')]; rfl) (fun i y hy => by
      rw [hflat, List.getElem?_map] at hy
      cases hc : st.data.toList[i]? with
      | none => rw [hc] at hy; simp at hy
      | some c =>
        rw [hc] at hy
        simp only [Option.map_some, Option.some.injEq] at hy
        subst hy
        show VR _ _ _ ((strCells w st e).getD i undefV)
        rw [hget i c hc]; exact .val _)
  rw [hlen] at this
  exact this

/-- A row of one's own that bears the string's mark from here on, taken as nobody's to write. -/
theorem markRow {σ : Store} {w : World} {b off len cap : Nat} {cs : List AV} {bs : List UInt8} {c : Array Value} {t : TypeId} {fz : Nat × Nat} {K : AV → Store → Prop} (hrel : Rel σ w) (hσ : σ b = some (.row cs))
    (hb : w.heap[b]? = some (.cells c t fz)) (hcap : len ≤ cap) (hle : off + len ≤ cs.length) (hbs : (cs.drop off).take len = bs.map u8) (h : K (bys bs) (σ.del b)) (n : Nat) :
    Post σ w K (.slice (some ⟨b, off, none⟩) len cap) (w.freeze ⟨b, n, none⟩ 1) := by
  obtain ⟨c0, t0, fz0, hw, h2, h3, h5, h4⟩ := hrel b _ hσ
  rw [hb] at hw; injection hw with hw; injection hw with x1 x2 x3; subst x1 x2 x3
  have hne : ∀ x, x ≠ b → (w.freeze ⟨b, n, none⟩ 1).heap[x]? = w.heap[x]? := fun x hx => by
    show (w.heap.modify b _)[x]? = _
    rw [Array.getElem?_modify, if_neg (Ne.symm hx)]
  have hself : ∃ fz', (w.freeze ⟨b, n, none⟩ 1).heap[b]? = some (.cells c t fz') := by
    obtain ⟨lo, hi⟩ := fz
    refine ⟨if lo == hi then (n, n + 1) else (min lo n, max hi (n + 1)), ?_⟩
    show (w.heap.modify b _)[b]? = _
    rw [Array.getElem?_modify, if_pos rfl, hb]
    rfl
  obtain ⟨fz', hb'⟩ := hself
  have hsz : (w.freeze ⟨b, n, none⟩ 1).heap.size = w.heap.size := by
    show (w.heap.modify b _).size = _
    simp
  have hstep : Step σ w (σ.del b) (w.freeze ⟨b, n, none⟩ 1) :=
    { os := rfl, tape := rfl, output := rfl
      size := by rw [hsz]; exact Nat.le_refl _
      keep := fun x hx hn => by
        have hxb : x ≠ b := fun e => by rw [e, hσ] at hn; cases hn
        exact ⟨by simp only [Store.del, if_neg hxb]; exact hn, hne x hxb⟩
      shape := fun x c' t' fz2 hc => by
        by_cases e : x = b
        · subst e; rw [hb] at hc; injection hc with hc; injection hc with y1 y2 y3; subst y1 y2 y3; exact ⟨c, fz', hb', rfl⟩
        · exact ⟨c', fz2, (hne x e).trans hc, rfl⟩ }
  have hlen : bs.length = len := by
    have := congrArg List.length hbs
    rw [List.length_take, List.length_drop, List.length_map] at this
    omega
  refine ⟨_, σ.del b, h, ?_, fun x o hx => ?_, hstep⟩
  · have hdel : (σ.del b) b = none := by simp [Store.del]
    have := VR.sl (σ := σ.del b) (w := w.freeze ⟨b, n, none⟩ 1) (bs.map u8) b off cap 1 (fun i => c.getD (off + i) undefV) (by rw [List.length_map]; omega) (fun x hx => by
        obtain ⟨c, _, rfl⟩ := List.mem_map.1 hx; rfl) hdel (lt_of_heap hb') (fun i hi => by
        rw [cell_of_row' hb']
        have : off + i < c.size := by rw [List.length_map] at hi; omega
        simp [Array.getD, this]) (fun i hi => h5 _ (by rw [List.length_map] at hi; omega)) (fun i y hy => by
        rw [u8_flat, ← hbs, List.getElem?_take] at hy
        split at hy
        · rw [List.getElem?_drop] at hy; exact (h4 _ y hy).step hstep
        · cases hy)
    rw [List.length_map, hlen] at this
    exact this
  · have hxb : x ≠ b := fun e => by subst e; simp [Store.del] at hx
    simp only [Store.del, if_neg hxb] at hx
    exact (hrel x o hx).step hstep (hne x hxb)

theorem convertA_sound (hT : TabOk P T) {σ : Store} {w : World} {s d : TypeId} {x : AV} {vx : Value} {K : AV → Store → Prop} (hrel : Rel σ w) (hx : VR σ w x vx) (h : convertA T s d x σ K) :
    ∃ v w', (convert s d vx).run P w = .ok v w' ∧ Post σ w K v w' := by
  unfold convertA at h
  split at h
  case h_2 => exact h.elim
  rename_i si di hsi hdi
  obtain ⟨⟨ds, hds, hks⟩, _⟩ := hT s si hsi
  obtain ⟨⟨dd, hdd, hkd⟩, _⟩ := hT d di hdi
  split at h
  · rename_i k k' n hk
    rw [hk] at hkd; have := tk_int hkd; subst this
    cases hx
    refine ⟨_, _, ?_, .same hrel (.val _) h⟩
    simp only [convert, Sem.run_bind, run_underlying' hds, run_underlying' hdd, Result.andThen_ok, Conv.intToInt, Sem.run_pure]
  · rename_i st hk1 hk2
    rw [hk1] at hks; have := tk_string hks; subst this
    rw [hk2] at hkd; have := tk_string hkd; subst this
    cases hx
    refine ⟨_, _, ?_, .same hrel (.val _) h⟩
    simp only [convert, Sem.run_bind, run_underlying' hds, run_underlying' hdd, Result.andThen_ok, Sem.run_pure]
  · rename_i e st hk1 hk2
    rw [hk1] at hks; have := tk_string hks; subst this
    rw [hk2] at hkd; have := tk_slice hkd; subst this
    cases hx
    split at h
    case h_2 => exact h.elim
    rename_i ei hei
    split at h
    case h_2 => exact h.elim
    rename_i hek
    obtain ⟨⟨de, hde, hke⟩, _⟩ := hT e ei hei
    rw [hek] at hke; have := tk_int hke; subst this
    exact ⟨_, _, run_stringRow hds hdd hde, stringRow hrel h⟩
  · rename_i e n c hk1 hk2
    rw [hk1] at hks; have := tk_slice hks; subst this
    rw [hk2] at hkd; have := tk_string hkd; subst this
    cases hx
    split at h
    case h_2 => exact h.elim
    rename_i ei hei
    split at h
    case h_2 => exact h.elim
    rename_i hek
    obtain ⟨⟨de, hde, hke⟩, _⟩ := hT e ei hei
    rw [hek] at hke; have := tk_int hke; subst this
    refine ⟨_, _, ?_, .same hrel (.val _) h⟩
    rw [run_convert_bytes_string w s d e none _ _ hds hde hdd]
    rfl
  · rename_i x e hk1 hk2 _
    rw [hk1] at hks; have := tk_slice hks; subst this
    rw [hk2] at hkd; have := tk_string hkd; subst this
    split at h
    · rename_i ei sz l hei _
      split at h
      case h_2 => exact h.elim
      rename_i hek hsz
      have hsz := Nat.eq_of_beq_eq_true hsz
      subst hsz
      obtain ⟨⟨de, hde, hke⟩, _⟩ := hT e ei hei
      rw [hek] at hke; have := tk_int hke; subst this
      obtain ⟨bs, rfl, hK⟩ := h
      refine ⟨.string ⟨bs.toArray⟩, w, ?_, .same hrel (.val _) hK⟩
      generalize hl : bs.map u8 = l at hx
      cases hx with
      | sl0 sz a cap =>
        have hb : bs = [] := by simpa using hl
        subst hb
        rw [run_convert_bytes_string w s d e a _ _ hds hde hdd]
        cases a with
        | none => rfl
        | some ad => 
          rw [run_bytesToString w ad 0 cap [] (by rfl)]
          rfl
      | sl _ b off cap _ f hcap hsz hσ hb hc h1 hv =>
        subst hl
        rw [run_convert_bytes_string w s d e _ _ _ hds hde hdd]
        have hca := CellsAt.of_fun (σ := σ) (w := w) (b := b) (off := off) (cs := bs.map u8) f (fun i hi => ⟨hc i (by omega), h1 i (by omega)⟩) (fun i y hy => hv i y (by rw [u8_flat]; exact hy))
        exact run_bytes hca (by simp)
    · rename_i ei b off len sz hei _
      split at h
      case h_2 => exact h.elim
      rename_i hek hsz
      have hsz := Nat.eq_of_beq_eq_true hsz
      subst hsz
      obtain ⟨⟨de, hde, hke⟩, _⟩ := hT e ei hei
      rw [hek] at hke; have := tk_int hke; subst this
      obtain ⟨cs, hσ, bs, hle, hbs, hK⟩ := h
      refine ⟨.string ⟨bs.toArray⟩, w, ?_, .same hrel (.val _) hK⟩
      obtain ⟨cap, c, t, fz, rfl, hcap, hb, hroom⟩ := hx.arr_inv
      rw [run_convert_bytes_string w s d e _ _ _ hds hde hdd]
      obtain ⟨vs, hca⟩ := CellsAt.of_row hrel (off := off) (n := len) hσ hle
      rw [hbs] at hca
      refine run_bytes hca ?_
      have := congrArg List.length hbs
      rw [List.length_take, List.length_drop, List.length_map] at this
      omega
    · exact h.elim
  · rename_i e0 e b off len sz hk1 hk2
    rw [hk1] at hks; have := tk_slice hks; subst this
    rw [hk2] at hkd; have := tk_slice hkd; subst this
    split at h
    case h_2 => exact h.elim
    rename_i ei hsd hei
    have hsd := Nat.eq_of_beq_eq_true hsd
    subst hsd
    split at h
    case h_2 => exact h.elim
    rename_i hek hsz
    have hsz := Nat.eq_of_beq_eq_true hsz
    subst hsz
    obtain ⟨⟨de, hde, hke⟩, _⟩ := hT e ei hei
    rw [hek] at hke; have := tk_int hke; subst this
    obtain ⟨cs, hσ, bs, hle, hbs, hK⟩ := h
    obtain ⟨cap, c, t, fz, rfl, hcap, hb, hroom⟩ := hx.arr_inv
    have hee : e0 = e := by rw [hds] at hdd; injection hdd with hdd; injection hdd
    subst hee
    refine ⟨.slice (some ⟨b, off, none⟩) len cap, _, ?_, markRow hrel hσ hb hcap hle hbs hK c.size⟩
    have hsh : w.shape? b = some (t, c.size) := by simp [World.shape?, hb]
    simp only [convert, Sem.run_bind, run_underlying' hds, Result.andThen_ok, beq_self_eq_true, run_underlying' hde, markStringish, run_shape, hsh, run_freeze, Sem.run_pure]
  · exact h.elim

end Go.Cr
