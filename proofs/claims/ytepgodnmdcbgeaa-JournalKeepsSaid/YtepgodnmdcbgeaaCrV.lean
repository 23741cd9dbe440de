/-
The abstract layer, part 22: contracts of the kit's shelf as contracts of this layer; slices.Sort of strings.
No statement of the program; no condition.
-/
import Derived.Test.YtepgodnmdcbgeaaCrU
import Derived.Shelf.Sort.Plain
import Derived.Shelf.Slices.In.SortNone

namespace Go.Cr
open Go Go.RowKit

variable {P : Program} {T : Tab}

/-- A contract in the kit's words. -/
theorem AInv.of_calls {f : FuncId} {fn : Func} {c : Code} {args : List AV} {σ : Store} {R : AV → Store → Prop} (hf : P.funcs[f]? = some fn) (hb : fn.body = some c)
    (hnm : fn.name ≠ "runtime.NumGoroutine") (h : ∀ w va, Rel σ w → VRs σ w args va → Calls P f va w (fun e w' => ∃ v, e = .returned v ∧ Post σ w R v w')) : ACalls P f args σ R := by
  refine ⟨fun w vf vc va hrel h1 h2 h3 => ?_⟩
  have e1 : vf = #[] := Array.eq_empty_of_size_eq_zero (by simpa using h1.1)
  have e2 : vc = #[] := Array.eq_empty_of_size_eq_zero (by simpa using h2.1)
  subst e1 e2
  have hrun : (invoke (.fn (.func f) #[]) (#[] ++ va)).run P w = .ok (.enter f va) w := by
    simp [invoke, callFunc, hf, hnm, hb]
  rw [hrun]
  exact h w va hrel h3

theorem Step.ahead (σ : Store) (w : World) (n : Nat) : Step σ w σ (Sort.ahead w n) := ⟨rfl, rfl, rfl, Nat.le_refl _, fun _ _ h => ⟨h, rfl⟩, fun _ c _ fz h => ⟨c, fz, h, rfl⟩⟩
theorem Rel.ahead {σ : Store} {w : World} (h : Rel σ w) (n : Nat) : Rel σ (Sort.ahead w n) := fun b o hb => (h b o hb).step (Step.ahead σ w n) rfl
theorem Step.grow (σ : Store) (w : World) (os : Array Obj) : Step σ w σ (Sort.grow w os) where
  os := rfl
  tape := rfl
  output := rfl
  size := by rw [Sort.size_grow]; omega
  keep b hb hσ := ⟨hσ, Sort.heap_grow_old w os hb⟩
  shape b c t fz hc := ⟨c, fz, (Sort.heap_grow_old w os (lt_of_heap hc)).trans hc, rfl⟩
theorem Rel.grow {σ : Store} {w : World} (h : Rel σ w) (os : Array Obj) : Rel σ (Sort.grow w os) := fun b o hb => (h b o hb).step (Step.grow σ w os) (Sort.heap_grow_old w os (h.lt hb))

/-- The store may say less of what its blocks hold. -/
theorem AInv.weak {f : Fn} {first captured args : List AV} {σ σ' : Store} {R : AV → Store → Prop} (hd : ∀ b, σ b = none ↔ σ' b = none) (hr : ∀ w, Rel σ w → Rel σ' w) (h : AInv P f first captured args σ' R) : AInv P f first captured args σ R := by
  have hl : ∀ {w : World} {l : List AV} {vs : Array Value}, VRs σ w l vs → VRs σ' w l vs := fun {_ _ _} hv => ⟨hv.1, fun i y hy => (hv.2 i y hy).less fun b hb => (hd b).1 hb⟩
  refine ⟨fun w vf vc va h0 h1 h2 h3 => (h.out w vf vc va (hr w h0) (hl h1) (hl h2) (hl h3)).mono ?_⟩
  rintro v w' ⟨a, σ'', q1, q2, q3, q4⟩
  exact ⟨a, σ'', q1, q2, q3, q4.more fun b hb => (hd b).1 hb⟩

/-- One row of the store, of which less is said. -/
theorem weak_row {σ : Store} {b : Nat} {cs cs' : List AV} (hl : cs'.length ≤ cs.length) (hc : ∀ (i : Nat) (y' : AV), cs'[i]? = some y' → ∃ y, cs[i]? = some y ∧ ∀ σ' w v, VR σ' w y v → VR σ' w y' v) :
    (∀ x, σ.set b (.row cs) x = none ↔ σ.set b (.row cs') x = none) ∧ ∀ w, Rel (σ.set b (.row cs)) w → Rel (σ.set b (.row cs')) w := by
  have hd : ∀ x, σ.set b (.row cs) x = none ↔ σ.set b (.row cs') x = none := fun x => by
    by_cases e : x = b
    · subst e; simp [Store.get_set]
    · rw [Store.get_set_ne _ e, Store.get_set_ne _ e]
  refine ⟨hd, fun w hrel x o hx => ?_⟩
  have hless : ∀ {y v}, VR (σ.set b (.row cs)) w y v → VR (σ.set b (.row cs')) w y v := fun hv => hv.less fun x hx => (hd x).1 hx
  by_cases e : x = b
  · subst e
    rw [Store.get_set] at hx; injection hx with hx; subst hx
    obtain ⟨c, t, fz, h1, h2, h3, h4, h5⟩ := hrel x _ (Store.get_set _ _ _)
    refine ⟨c, t, fz, h1, by omega, h3, fun i hi => h4 i (by omega), fun i y' hy' => ?_⟩
    obtain ⟨y, hy, hv⟩ := hc i y' hy'
    exact hv _ _ _ (hless (h5 i y hy))
  · rw [Store.get_set_ne _ e] at hx
    have := hrel x o (by rw [Store.get_set_ne _ e]; exact hx)
    cases o with
    | row cs => obtain ⟨c, t, fz, h1, h2, h3, h4, h5⟩ := this; exact ⟨c, t, fz, h1, h2, h3, h4, fun i y hy => hless (h5 i y hy)⟩
    | raw o => exact this
    | loop r e => exact ⟨this.1, fun i x hx => hless (this.2 i x hx)⟩

/-- A function that only reads, and whose result is a plain value: what it is given may be seen as nobody's; all stays as it is. -/
theorem AInv.pure {f : Fn} {first captured args args' : List AV} {σ : Store} {R : AV → Store → Prop} {Q : Value → Prop} (hv : ∀ w va, Rel σ w → VRs σ w args va → VRs emptyS w args' va)
    (h : AInv P f first captured args' emptyS fun a _ => ∃ v, a = .val v ∧ Q v) (hq : ∀ v, Q v → R (.val v) σ) : AInv P f first captured args σ R := by
  have hl : ∀ {w : World} {l : List AV} {vs : Array Value}, VRs σ w l vs → VRs emptyS w l vs := fun {_ _ _} hv => ⟨hv.1, fun i y hy => (hv.2 i y hy).less fun _ _ => rfl⟩
  refine ⟨fun w vf vc va h0 h1 h2 h3 => (h.out w vf vc va (Rel.empty w) (hl h1) (hl h2) (hv w va h0 h3)).mono ?_⟩
  rintro v w' ⟨a, σ'', ⟨u, rfl, hu⟩, q2, q3, q4⟩
  have hst : Step σ w σ w' := ⟨q4.os, q4.tape, q4.output, q4.size, fun b hb hσ => ⟨hσ, (q4.keep b hb rfl).2⟩, q4.shape⟩
  refine ⟨.val u, σ, hq u hu, by cases q2; exact .val _, fun b o hb => (h0 b o hb).step hst (q4.keep b (h0.lt hb) rfl).2, hst⟩

def strA (s : ByteArray) : AV := .val (.string s)
def toL (s : ByteArray) : List UInt8 := s.data.toList
def ofL (l : List UInt8) : ByteArray := ⟨l.toArray⟩
theorem ofL_toL (s : ByteArray) : ofL (toL s) = s := by cases s; simp [ofL, toL]
theorem toL_ofL (l : List UInt8) : toL (ofL l) = l := by simp [ofL, toL]

/-- Strings, rising. -/
def sortB (l : List ByteArray) : List ByteArray := ((l.map toL).mergeSort fun x y => decide (x ≤ y)).map ofL
theorem sortB_perm (l : List ByteArray) : (sortB l).Perm l := by
  have h := (List.mergeSort_perm (l.map toL) fun x y => decide (x ≤ y)).map ofL
  have e : (l.map toL).map ofL = l := by rw [List.map_map]; conv => rhs; rw [← List.map_id l]
                                         exact List.map_congr_left fun s _ => ofL_toL s
  rw [e] at h; exact h
theorem sortB_length (l : List ByteArray) : (sortB l).length = l.length := (sortB_perm l).length_eq
theorem sortB_sorted (l : List ByteArray) : (sortB l).Pairwise fun a b => toL a ≤ toL b := by
  unfold sortB
  rw [List.pairwise_map]
  have h := List.pairwise_mergeSort (le := fun x y : List UInt8 => decide (x ≤ y)) (fun a b c h1 h2 => by simp only [decide_eq_true_eq] at *; exact List.le_trans h1 h2)
    (fun a b => by simp only [Bool.or_eq_true, decide_eq_true_eq]; exact List.le_total a b) (l.map toL)
  exact h.imp fun {a b} h => by simpa [toL_ofL] using h

theorem map_mapIdx_get (enc : List UInt8 → Value) (off : Nat) (d : Array (List UInt8)) (c : Array Value) (i : Nat) (hi : i < c.size) : (Sort.putCells enc off d c).getD i undefV = if off ≤ i ∧ i < off + d.size then enc d[i - off]! else c.getD i undefV := by
  simp [Sort.putCells, Array.getD_eq_getD_getElem?, hi]

/-- slices.Sort of a row of strings of one's own. -/
theorem sortStr_rule {ρ : Shelf.Ren} (Ly : Proofs.Lays.n190 P ρ) {fn : Func} {c : Code} (hf : P.funcs[ρ.f 190]? = some fn) (hb : fn.body = some c) (hnm : fn.name ≠ "runtime.NumGoroutine")
    {b : Nat} {l : List ByteArray} {σ : Store} {R : AV → Store → Prop} (hσ : σ b = some (.row (l.map strA))) (hn : l.length < 4611686018427387904)
    (h : R (.tup []) (σ.set b (.row ((sortB l).map strA)))) : ACalls P (ρ.f 190) [.arr b 0 l.length 1] σ R := by
  refine AInv.of_calls hf hb hnm fun w va hrel hva => ?_
  obtain ⟨v, rfl, hv⟩ := vrs1 hva
  obtain ⟨cap, c0, t0, fz0, rfl, hcap, hb0, hroom⟩ := hv.arr_inv
  obtain ⟨c, t, fz, hw, hcs, hfz, h1, h4⟩ := hrel b _ hσ
  rw [hb0] at hw; injection hw with hw; injection hw with x1 x2 x3; subst x1 x2 x3
  rw [List.length_map] at hcs
  have hlen : (l.map toL).length = l.length := List.length_map _
  have hcell : ∀ j, j < l.length → c0.getD j undefV = .string (l.getD j ⟨#[]⟩) := fun j hj => by
    have hy : (l.map strA)[j]? = some (strA l[j]) := by simp [hj]
    have := h4 j _ hy
    rw [this.val_inv]; simp [List.getD, hj]
  have hH : Sort.Holds Proofs.encStr w b 0 (l.map toL).toArray := by
    intro j hj
    have hj' : j < l.length := by simpa using hj
    have hjc : j < c0.size := by omega
    refine ⟨?_, ?_⟩
    · rw [Nat.zero_add, cell_of_row' hb0]
      have e1 := hcell j hj'
      have e2 : c0[j]? = some (c0.getD j undefV) := by simp [Array.getD, hjc]
      rw [e2, e1]
      congr 1
      have e3 : (l.map toL).toArray[j]! = toL l[j] := by
        rw [getElem!_pos _ j hj]; simp
      rw [e3]
      show Value.string _ = Value.string (ofL (toL l[j]))
      rw [ofL_toL]; simp [List.getD, hj']
    · have := hfz j (by omega)
      simp only [World.frozen?, hb0, Bool.and_eq_false_iff, decide_eq_false_iff_not]
      omega
  have hc := Proofs.Any.slices_Sort_string Ly b 0 cap (l.map toL) w hH (lt_of_heap hb0) (by rw [hlen]; exact hn)
  rw [hlen] at hc
  refine hc.mono ?_
  rintro e w' ⟨rfl, n, os, rfl⟩
  refine ⟨_, rfl, ?_⟩
  generalize hd : ((l.map toL).mergeSort fun x y => decide (x ≤ y)).toArray = d
  have hds : d.size = l.length := by rw [← hd]; simp
  have hw1 : (Sort.putRow Proofs.encStr (Sort.ahead w n) b 0 d).heap[b]? = some (.cells (Sort.putCells Proofs.encStr 0 d c0) t0 fz0) := by
    show (w.heap.modify b _)[b]? = _
    simp [Array.getElem?_modify, hb0, Sort.onCells]
  have hwk : ∀ x, x ≠ b → (Sort.putRow Proofs.encStr (Sort.ahead w n) b 0 d).heap[x]? = w.heap[x]? := fun x hx => by
    show (w.heap.modify b _)[x]? = _
    rw [Array.getElem?_modify, if_neg (Ne.symm hx)]
  have hsz : (Sort.putCells Proofs.encStr 0 d c0).size = c0.size := by simp [Sort.putCells]
  have hst : Step σ w (σ.set b (.row ((sortB l).map strA))) (Sort.putRow Proofs.encStr (Sort.ahead w n) b 0 d) :=
    Step.write hσ rfl rfl rfl (by show (w.heap.modify b _).size = _; simp) hwk (fun c t fz hc => by
      rw [hb0] at hc; injection hc with hc; injection hc with y1 y2 y3; subst y1 y2 y3
      exact ⟨_, _, hw1, hsz⟩)
  have hget : ∀ i y, ((sortB l).map strA)[i]? = some y → ∃ s, y = .val (.string s) ∧ (Sort.putCells Proofs.encStr 0 d c0).getD i undefV = .string s := by
    intro i y hy
    have hi : i < l.length := by have := lt_of_get hy; rwa [List.length_map, sortB_length] at this
    rw [map_mapIdx_get _ _ _ _ _ (by omega), if_pos (by omega)]
    have hs : (sortB l).map strA = d.toList.map fun x => .val (.string (ofL x)) := by rw [← hd]; simp [sortB, strA]
    rw [hs, List.getElem?_map] at hy
    have hi2 : i < d.size := by omega
    rw [Array.getElem?_toList, Array.getElem?_eq_getElem hi2] at hy
    simp only [Option.map_some, Option.some.injEq] at hy
    refine ⟨_, hy.symm, ?_⟩
    rw [Nat.sub_zero, getElem!_pos d i hi2]; rfl
  have hrel1 : Rel (σ.set b (.row ((sortB l).map strA))) (Sort.putRow Proofs.encStr (Sort.ahead w n) b 0 d) := by
    refine hrel.write hst hwk ⟨_, _, _, hw1, by rw [hsz, List.length_map, sortB_length]; exact hcs, fun i hi => hfz i (by rw [hsz] at hi; exact hi), fun i hi => ?_, fun i y hy => ?_⟩
    · obtain ⟨s, _, e⟩ := hget i _ (List.getElem?_eq_getElem hi)
      rw [e]; rfl
    · obtain ⟨s, rfl, e⟩ := hget i y hy
      rw [e]; exact .val _
  exact ⟨_, _, h, .tup _ _ rfl (by simp), hrel1.grow os, hst.trans (Step.grow _ _ _)⟩

/-- slices.Sort of nil. -/
theorem sortStr_nil {ρ : Shelf.Ren} (Ly : Proofs.Lays.n190 P ρ) {fn : Func} {c : Code} (hf : P.funcs[ρ.f 190]? = some fn) (hb : fn.body = some c) (hnm : fn.name ≠ "runtime.NumGoroutine")
    {σ : Store} {R : AV → Store → Prop} (h : R (.tup []) σ) : ACalls P (ρ.f 190) [.val (.slice none 0 0)] σ R := by
  refine AInv.of_calls hf hb hnm fun w va hrel hva => ?_
  obtain ⟨v, rfl, hv⟩ := vrs1 hva
  rw [hv.val_inv]
  refine (Proofs.Any.slices_Sort_string_none Ly none 0 w).mono ?_
  rintro e w' ⟨rfl, rfl⟩
  exact ⟨_, rfl, _, _, h, .tup _ _ rfl (by simp), hrel, .refl _ _⟩

end Go.Cr
