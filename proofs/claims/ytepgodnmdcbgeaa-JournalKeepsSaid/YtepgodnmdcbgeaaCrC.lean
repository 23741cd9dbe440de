/-
The abstract layer, part 3: cells that are read and written: what loads, stores, new blocks come to on abstract values.
No statement of the program; no condition.
-/
import Derived.Test.YtepgodnmdcbgeaaCrB

namespace Go.Cr
open Go Go.RowKit

/-! ### Cells that read as abstract values -/

/-- From the offset on the block's cells are the values vs, and these are what cs says. -/
def CellsAt (σ : Store) (w : World) (b off : Nat) (cs : List AV) (vs : List Value) : Prop :=
  vs.length = cs.length ∧ (∀ (i : Nat) (v : Value), vs[i]? = some v → w.cell? ⟨b, off + i, none⟩ = some v ∧ v.oneCell' = true) ∧ ∀ (i : Nat) (y : AV) (v : Value), cs[i]? = some y → vs[i]? = some v → VR σ w y v

theorem cell_of_row' {w : World} {b : Nat} {c : Array Value} {t : TypeId} {fz : Nat × Nat} (h : w.heap[b]? = some (.cells c t fz)) (o : Nat) : w.cell? ⟨b, o, none⟩ = c[o]? := by
  simp [World.cell?, h]

theorem CellsAt.of_fun {σ : Store} {w : World} {b off : Nat} {cs : List AV} (f : Nat → Value) (hc : ∀ i, i < cs.length → w.cell? ⟨b, off + i, none⟩ = some (f i) ∧ (f i).oneCell' = true)
    (hv : ∀ i y, cs[i]? = some y → VR σ w y (f i)) : CellsAt σ w b off cs ((List.range cs.length).map f) := by
  refine ⟨by simp, fun i v hi => ?_, fun i y v hy hi => ?_⟩
  · rw [List.getElem?_map] at hi
    rcases Nat.lt_or_ge i cs.length with h | h
    · simp [List.getElem?_range h] at hi; subst hi; exact hc i h
    · rw [List.getElem?_eq_none (by simpa using h)] at hi; cases hi
  · have hlt : i < cs.length := by
      rcases Nat.lt_or_ge i cs.length with h | h
      · exact h
      · rw [List.getElem?_eq_none h] at hy; cases hy
    rw [List.getElem?_map] at hi
    simp [List.getElem?_range hlt] at hi; subst hi; exact hv i y hy

theorem CellsAt.of_row {σ : Store} {w : World} (hrel : Rel σ w) {b off n : Nat} {cs : List AV} (hb : σ b = some (.row cs)) (h : off + n ≤ cs.length) : ∃ vs, CellsAt σ w b off ((cs.drop off).take n) vs := by
  obtain ⟨c, t, fz, h1, h2, _, h5, h4⟩ := hrel b _ hb
  have hl : ((cs.drop off).take n).length = n := by simp; omega
  refine ⟨_, CellsAt.of_fun (fun i => c.getD (off + i) undefV) (fun i hi => ?_) (fun i y hy => ?_)⟩
  · rw [cell_of_row' h1]
    rw [hl] at hi
    have : off + i < c.size := by omega
    exact ⟨by simp [Array.getD, this], h5 _ (by omega)⟩
  · have : cs[off + i]? = some y := by
      rw [List.getElem?_take] at hy
      split at hy
      · simpa using hy
      · cases hy
    exact h4 _ _ this

theorem CellsAt.of_iptr {σ : Store} {w : World} {cs : List AV} {v : Value} (h : VR σ w (.iptr cs) v) : ∃ b off vs, v = .pointer (some ⟨b, off, none⟩) ∧ σ b = none ∧ b < w.heap.size ∧ CellsAt σ w b off cs vs := by
  cases h with
  | iptr _ b off f hσ hb hc h1 hv => exact ⟨b, off, _, rfl, hσ, hb, CellsAt.of_fun f (fun i hi => ⟨hc i hi, h1 i hi⟩) hv⟩

theorem CellsAt.sub {σ : Store} {w : World} {b off : Nat} {cs : List AV} {vs : List Value} (h : CellsAt σ w b off cs vs) (k n : Nat) : CellsAt σ w b (off + k) ((cs.drop k).take n) ((vs.drop k).take n) := by
  refine ⟨by simp [h.1], fun i v hi => ?_, fun i y v hy hi => ?_⟩
  · rw [List.getElem?_take] at hi
    split at hi
    · rw [Nat.add_assoc]; exact h.2.1 _ v (by simpa using hi)
    · cases hi
  · rw [List.getElem?_take] at hy hi
    split at hy
    · rename_i hlt
      rw [if_pos hlt] at hi
      exact h.2.2 (k + i) y v (by simpa using hy) (by simpa using hi)
    · cases hy

theorem CellsAt.iptr {σ : Store} {w : World} {b off : Nat} {cs : List AV} {vs : List Value} (h : CellsAt σ w b off cs vs) (hσ : σ b = none) (hb : b < w.heap.size) : VR σ w (.iptr cs) (.pointer (some ⟨b, off, none⟩)) := by
  refine .iptr cs b off (fun i => vs.getD i undefV) hσ hb (fun i hi => ?_) (fun i hi => ?_) (fun i y hy => ?_)
  · have hi' : i < vs.length := by rw [h.1]; exact hi
    exact (h.2.1 i _ (by simp [List.getD, List.getElem?_eq_getElem hi'])).1
  · have hi' : i < vs.length := by rw [h.1]; exact hi
    exact (h.2.1 i _ (by simp [List.getD, List.getElem?_eq_getElem hi'])).2
  · have hi : i < vs.length := by
      rw [h.1]
      rcases Nat.lt_or_ge i cs.length with h' | h'
      · exact h'
      · rw [List.getElem?_eq_none h'] at hy; cases hy
    exact h.2.2 i y _ hy (by simp [List.getD, List.getElem?_eq_getElem hi])

theorem CellsAt.agg {σ : Store} {w : World} {b off : Nat} {cs : List AV} {vs : List Value} (h : CellsAt σ w b off cs vs) : VR σ w (.agg cs) (.agg vs.toArray) := by
  refine .agg cs _ (by simpa using h.1) (fun u hu => ?_) (fun i y hy => ?_)
  · obtain ⟨j, hj, rfl⟩ := List.mem_iff_getElem.1 hu
    exact (h.2.1 j _ (List.getElem?_eq_getElem (by simpa using hj))).2
  have hi : i < vs.length := by
    rw [h.1]
    rcases Nat.lt_or_ge i cs.length with h' | h'
    · exact h'
    · rw [List.getElem?_eq_none h'] at hy; cases hy
  exact h.2.2 i y _ hy (by simp [Array.getD, hi])

theorem CellsAt.loads {P : Program} {σ : Store} {w : World} {b off : Nat} {cs : List AV} {vs : List Value} (h : CellsAt σ w b off cs vs) {n : Nat} (hn : cs.length = n) :
    (loadCells ⟨b, off, none⟩ n).run P w = .ok vs.toArray w := by
  rw [← hn, ← h.1]
  refine run_loadCells_list w _ vs (fun j v hj => ?_)
  have : (⟨b, off, none⟩ : Addr).add j = ⟨b, off + j, none⟩ := by unfold Addr.add; split <;> simp_all
  rw [this]; exact (h.2.1 j v hj).1

/-- The cells of a list of elements that all have sz cells. -/
theorem flat_get {sz : Nat} : ∀ {l : List AV}, (∀ x ∈ l, x.cells.length = sz) → ∀ {i j : Nat} {x y : AV}, l[i]? = some x → x.cells[j]? = some y → (l.flatMap AV.cells)[i * sz + j]? = some y
  | [], _, i, j, x, y, hi, _ => by simp at hi
  | a :: l, h, 0, j, x, y, hi, hj => by
    simp only [List.getElem?_cons_zero, Option.some.injEq] at hi
    subst hi
    have hlt : j < a.cells.length := by
      rcases Nat.lt_or_ge j a.cells.length with h' | h'
      · exact h'
      · rw [List.getElem?_eq_none h'] at hj; cases hj
    simp only [List.flatMap_cons, Nat.zero_mul, Nat.zero_add]
    rw [List.getElem?_append_left hlt]; exact hj
  | a :: l, h, i + 1, j, x, y, hi, hj => by
    have ih := flat_get (fun x hx => h x (List.mem_cons_of_mem _ hx)) (by simpa using hi) hj
    have ha : a.cells.length = sz := h a List.mem_cons_self
    simp only [List.flatMap_cons]
    rw [List.getElem?_append_right (by rw [ha, Nat.add_mul]; omega), ha, ← ih]
    congr 1
    rw [Nat.add_mul]; omega

theorem flat_length {sz : Nat} : ∀ {l : List AV}, (∀ x ∈ l, x.cells.length = sz) → (l.flatMap AV.cells).length = l.length * sz
  | [], _ => by simp
  | a :: l, h => by
    simp only [List.flatMap_cons, List.length_append, List.length_cons]
    rw [flat_length (fun x hx => h x (List.mem_cons_of_mem _ hx)), h a List.mem_cons_self, Nat.add_mul]; omega

theorem lt_of_get {α : Type} {l : List α} {i : Nat} {x : α} (h : l[i]? = some x) : i < l.length := by
  rcases Nat.lt_or_ge i l.length with h' | h'
  · exact h'
  · rw [List.getElem?_eq_none h'] at h; cases h

/-- An element of a slice that nobody writes: the cells at its place. -/
theorem CellsAt.of_sl {σ : Store} {w : World} {sz : Nat} {l : List AV} {v : Value} (h : VR σ w (.sl sz l) v) {i : Nat} {x : AV} (hi : l[i]? = some x) :
    ∃ b off cap vs, v = .slice (some ⟨b, off, none⟩) l.length cap ∧ σ b = none ∧ b < w.heap.size ∧ CellsAt σ w b (off + i * sz) x.cells vs := by
  cases h with
  | sl0 sz a cap => simp at hi
  | sl _ b off cap _ f hcap hsz' hσ hb hc h1 hv =>
    have hx : x ∈ l := List.mem_of_getElem? hi
    have hxl := hsz' x hx
    have hlt := lt_of_get hi
    have hle : (i + 1) * sz ≤ l.length * sz := Nat.mul_le_mul_right _ hlt
    rw [Nat.add_mul] at hle
    refine ⟨b, off, cap, _, rfl, hσ, hb, CellsAt.of_fun (fun j => f (i * sz + j)) (fun j hj => ?_) (fun j y hy => ?_)⟩
    · rw [Nat.add_assoc]; exact ⟨hc _ (by omega), h1 _ (by omega)⟩
    · exact hv _ _ (flat_get hsz' hi hy)

/-! ### The cells of a value -/

def AV.isTop : AV → Bool
  | .top => true
  | _ => false

theorem VR.cells {σ : Store} {w : World} {a : AV} {v : Value} (h : VR σ w a v) (ht : a.isTop = false) : VRs σ w a.cells v.cells := by
  cases h with
  | top v => simp [AV.isTop] at ht
  | val v =>
    cases v with
    | agg cs =>
      refine ⟨by simp [AV.cells, Value.cells], fun i y hy => ?_⟩
      simp only [AV.cells, List.getElem?_map] at hy
      cases hc : cs[i]? with
      | none => simp [hc] at hy
      | some u =>
        simp [hc] at hy
        subst hy
        simp only [Value.cells]
        have : cs.getD i undefV = u := by simp [Array.getD_eq_getD_getElem?, hc]
        rw [this]; exact .val u
    | _ => exact ⟨rfl, fun i y hy => by cases i <;> simp [AV.cells] at hy; subst hy; exact .val _⟩
  | sl0 sz a cap => exact ⟨rfl, fun i y hy => by cases i <;> simp [AV.cells] at hy; subst hy; exact .sl0 sz a cap⟩
  | sl l b off cap sz f hcap hsz hσ hb hc h1 hv => exact ⟨rfl, fun i y hy => by cases i <;> simp [AV.cells] at hy; subst hy; exact .sl l b off cap sz f hcap hsz hσ hb hc h1 hv⟩
  | arr b off len sz cap c t fz hcap hb hroom => exact ⟨rfl, fun i y hy => by cases i <;> simp [AV.cells] at hy; subst hy; exact .arr b off len sz cap c t fz hcap hb hroom⟩
  | iptr cs b off f hσ hb hc h1 hv => exact ⟨rfl, fun i y hy => by cases i <;> simp [AV.cells] at hy; subst hy; exact .iptr cs b off f hσ hb hc h1 hv⟩
  | agg cs vs hs h1 hv => exact ⟨hs, hv⟩
  | tup cs vs hs hv => exact ⟨rfl, fun i y hy => by cases i <;> simp [AV.cells] at hy; subst hy; exact .tup cs vs hs hv⟩
  | fn f fs cs vf vc hf hc h1 h2 => exact ⟨rfl, fun i y hy => by cases i <;> simp [AV.cells] at hy; subst hy; exact .fn f fs cs vf vc hf hc h1 h2⟩
  | ifc t a v h => exact ⟨rfl, fun i y hy => by cases i <;> simp [AV.cells] at hy; subst hy; exact .ifc t a v h⟩

theorem AV.top_of_ones {a : AV} (h : a.ones = true) : a.isTop = false := by cases a <;> simp_all [AV.ones, AV.isTop]

theorem VR.ones {σ : Store} {w : World} {a : AV} {v : Value} (h : VR σ w a v) (ho : a.ones = true) : ∀ u ∈ v.cells.toList, u.oneCell' = true := by
  cases h with
  | val v =>
    cases v with
    | agg cs =>
      simp only [AV.ones, List.all_eq_true] at ho
      exact ho
    | _ => simp_all [AV.ones, Value.cells, Value.oneCell']
  | agg cs vs hs h1 hv => exact h1
  | _ => simp_all [AV.ones, Value.cells, Value.oneCell']

/-! ### Cells that are written -/

def putCells (c : Array Value) : Nat → List Value → Array Value
  | _, [] => c
  | k, v :: r => putCells (c.setIfInBounds k v) (k + 1) r

def putA (cs : List AV) : Nat → List AV → List AV
  | _, [] => cs
  | k, a :: r => putA (cs.set k a) (k + 1) r

theorem putCells_size : ∀ (vs : List Value) (c : Array Value) (k : Nat), (putCells c k vs).size = c.size
  | [], _, _ => rfl
  | v :: r, c, k => by simp only [putCells]; rw [putCells_size r]; simp

theorem putA_length : ∀ (vs : List AV) (c : List AV) (k : Nat), (putA c k vs).length = c.length
  | [], _, _ => rfl
  | v :: r, c, k => by simp only [putA]; rw [putA_length r]; simp

theorem putCells_getD : ∀ (vs : List Value) (c : Array Value) (k : Nat), k + vs.length ≤ c.size → ∀ i, (putCells c k vs).getD i undefV = if k ≤ i ∧ i < k + vs.length then vs.getD (i - k) undefV else c.getD i undefV
  | [], c, k, _, i => by simp only [putCells, List.length_nil, Nat.add_zero]; rw [if_neg (by omega)]
  | v :: r, c, k, h, i => by
    simp only [List.length_cons] at h
    simp only [putCells, List.length_cons]
    rw [putCells_getD r _ _ (by simp; omega)]
    by_cases h1 : i = k
    · subst h1
      rw [if_neg (by omega), if_pos (by omega)]
      have : i < c.size := by omega
      simp [Array.getD, this]
    · by_cases h2 : k + 1 ≤ i ∧ i < k + 1 + r.length
      · rw [if_pos h2, if_pos (by omega)]
        obtain ⟨j, rfl⟩ : ∃ j, i = k + 1 + j := ⟨i - (k + 1), by omega⟩
        have e1 : k + 1 + j - (k + 1) = j := by omega
        have e2 : k + 1 + j - k = j + 1 := by omega
        rw [e1, e2]; simp
      · rw [if_neg h2, if_neg (by omega)]
        have hk : ¬ k = i := fun e => h1 e.symm
        by_cases hi : i < c.size
        · simp [Array.getD, hi, hk]
        · simp [Array.getD, hi]

theorem putA_get : ∀ (vs : List AV) (c : List AV) (k : Nat), k + vs.length ≤ c.length → ∀ i, (putA c k vs)[i]? = if k ≤ i ∧ i < k + vs.length then vs[i - k]? else c[i]?
  | [], c, k, _, i => by simp only [putA, List.length_nil, Nat.add_zero]; rw [if_neg (by omega)]
  | v :: r, c, k, h, i => by
    simp only [List.length_cons] at h
    simp only [putA, List.length_cons]
    rw [putA_get r _ _ (by simp; omega)]
    by_cases h1 : i = k
    · subst h1
      rw [if_neg (by omega), if_pos (by omega)]
      have : i < c.length := by omega
      simp [this]
    · by_cases h2 : k + 1 ≤ i ∧ i < k + 1 + r.length
      · rw [if_pos h2, if_pos (by omega)]
        obtain ⟨j, rfl⟩ : ∃ j, i = k + 1 + j := ⟨i - (k + 1), by omega⟩
        have e1 : k + 1 + j - (k + 1) = j := by omega
        have e2 : k + 1 + j - k = j + 1 := by omega
        rw [e1, e2]; simp
      · rw [if_neg h2, if_neg (by omega)]
        have hk : ¬ k = i := fun e => h1 e.symm
        simp [hk]

/-- Stores into a row, one cell behind the other. -/
theorem run_store_row (P : Program) (b off : Nat) (t : TypeId) (fz : Nat × Nat) : ∀ (vs : List Value) (i : Nat) (c : Array Value) (w : World), w.heap[b]? = some (.cells c t fz) → off + i + vs.length ≤ c.size →
    (∀ j, j < c.size → ¬ (fz.1 ≤ j ∧ j < fz.2)) → (∀ v ∈ vs, v.oneCell' = true) →
    ∃ w', (storeCells ⟨b, off, none⟩ vs i).run P w = .ok () w' ∧ w'.heap[b]? = some (.cells (putCells c (off + i) vs) t fz) ∧ (∀ x, x ≠ b → w'.heap[x]? = w.heap[x]?) ∧
      w'.os = w.os ∧ w'.tape = w.tape ∧ w'.output = w.output ∧ w'.heap.size = w.heap.size
  | [], i, c, w, hw, _, _, _ => ⟨w, rfl, hw, fun _ _ => rfl, rfl, rfl, rfl, rfl⟩
  | v :: r, i, c, w, hw, hl, hf, h1 => by
    simp only [List.length_cons] at hl
    have hadd : (⟨b, off, none⟩ : Addr).add i = ⟨b, off + i, none⟩ := by unfold Addr.add; split <;> simp_all
    have hc : w.cell? ⟨b, off + i, none⟩ = some c[off + i] := by rw [cell_of_row' hw]; exact Array.getElem?_eq_getElem (by omega)
    have hz : w.frozen? ⟨b, off + i, none⟩ = false := by
      have := hf (off + i) (by omega)
      simp only [World.frozen?, hw, Bool.and_eq_false_iff, decide_eq_false_iff_not]
      omega
    have hst : (store ((⟨b, off, none⟩ : Addr).add i) v).run P w = .ok () (w.setCell ⟨b, off + i, none⟩ v) := by
      rw [hadd, run_store P w _ v _ (h1 v (by simp)), hc]
      simp [hz]
    have hw1 : (w.setCell ⟨b, off + i, none⟩ v).heap[b]? = some (.cells (c.setIfInBounds (off + i) v) t fz) := by
      simp [World.setCell, Array.getElem?_modify, hw]
    obtain ⟨w', h2, h3, h4, h5⟩ := run_store_row P b off t fz r (i + 1) (c.setIfInBounds (off + i) v) (w.setCell ⟨b, off + i, none⟩ v) hw1 (by simp; omega) (fun j hj => hf j (by simpa using hj)) (fun u hu => h1 u (by simp [hu]))
    refine ⟨w', ?_, h3, fun x hx => ?_, h5.1, h5.2.1, h5.2.2.1, by rw [h5.2.2.2]; simp⟩
    · simp only [storeCells, Sem.run_bind, hst, Result.andThen_ok]; exact h2
    · rw [h4 x hx]; exact Below.heap_setCell _ _ _ _ hx

/-- The abstract side of stores into a row: cells within what is known; or just behind it. -/
theorem put_row {σ : Store} {w : World} {cs news : List AV} {c : Array Value} {vs : List Value} (hcs : cs.length ≤ c.size) (h : ∀ i y, cs[i]? = some y → VR σ w y (c.getD i undefV)) {k : Nat}
    (hl : vs.length = news.length) (hv : ∀ i y, news[i]? = some y → VR σ w y (vs.getD i undefV)) (hk : k + news.length ≤ cs.length) :
    ∀ i y, (putA cs k news)[i]? = some y → VR σ w y ((putCells c k vs).getD i undefV) := by
  intro i y hy
  rw [putA_get _ _ _ hk] at hy
  rw [putCells_getD _ _ _ (by omega)]
  by_cases hi : k ≤ i ∧ i < k + news.length
  · rw [if_pos hi] at hy
    rw [if_pos (by omega)]
    exact hv _ _ hy
  · rw [if_neg hi] at hy
    rw [if_neg (by omega)]
    exact h _ _ hy

theorem put_behind {σ : Store} {w : World} {cs news : List AV} {c : Array Value} {vs : List Value} (h : ∀ i y, cs[i]? = some y → VR σ w y (c.getD i undefV))
    (hl : vs.length = news.length) (hv : ∀ i y, news[i]? = some y → VR σ w y (vs.getD i undefV)) (hk : cs.length + news.length ≤ c.size) :
    ∀ i y, (cs ++ news)[i]? = some y → VR σ w y ((putCells c cs.length vs).getD i undefV) := by
  intro i y hy
  rw [putCells_getD _ _ _ (by omega)]
  by_cases hi : i < cs.length
  · rw [List.getElem?_append_left hi] at hy
    rw [if_neg (by omega)]
    exact h _ _ hy
  · rw [List.getElem?_append_right (by omega)] at hy
    have := lt_of_get hy
    rw [if_pos (by omega)]
    exact hv _ _ hy

end Go.Cr
