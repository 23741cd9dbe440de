/-
The abstract layer, part 25: from a contract to a claim: arguments, what reads as it did, a law's end.
No statement of the program; no condition.
-/
import Derived.Test.YtepgodnmdcbgeaaCrX

namespace Go.Cr
open Go Go.RowKit Go.ChangeShapes

variable {P : Program} {T : Tab}

theorem okWide_cell (hT : TabOk P T) {t : TypeId} {ti : TI} (ht : T.get t = some ti) (ha : ti.agg = false) {w : World} {base : Nat} {v : Value} (h : Value.okWide P w .any base t v) : v.cells = #[v] := by
  obtain ⟨⟨d, hd, hk⟩, _⟩ := hT t ti ht
  unfold TI.agg at ha
  unfold Value.okWide at h
  rw [hd] at h
  cases v with
  | agg cs =>
    exfalso
    cases d with
    | struct fs => rw [show ti.kind = .struct (fs.toList.map fun f => (f.offset, f.type)) from hk.symm] at ha; cases ha
    | array n e => rw [show ti.kind = .array n e from hk.symm] at ha; cases ha
    | _ => simp [Cell.okWide, Cell.ok, hd] at h
  | _ => rfl
theorem okWide_agg (hT : TabOk P T) {t : TypeId} {ti : TI} (ht : T.get t = some ti) (ha : ti.agg = true) {w : World} {base : Nat} {v : Value} (h : Value.okWide P w .any base t v) : ∃ cs, v = .agg cs := by
  obtain ⟨⟨d, hd, hk⟩, _⟩ := hT t ti ht
  unfold TI.agg at ha
  unfold Value.okWide at h
  rw [hd] at h
  cases d with
  | struct fs => obtain ⟨cs, h, _⟩ := h; exact ⟨cs, h⟩
  | array n e => obtain ⟨cs, h, _⟩ := h; exact ⟨cs, h⟩
  | _ => rw [← hk] at ha; cases ha

/-- An argument, as an abstract value. -/
theorem open_arg (hT : TabOk P T) {H : Type} {enc : TypeId × Value → H} {w : World} {f t : Nat} {ti : TI} (hok : okT T f t = true) (ht : T.get t = some ti) {base : Nat} {v : Value} {d : DataW H} {p : List MemPlace}
    (hval : Value.okWide P w .any base t v) (h : DataW.Trod enc P w 0 (fun _ => true) true t v d p) : ∃ l, fitsC T f t l ∧ VR emptyS w (elemA ti l) v := by
  obtain ⟨fuel, h⟩ := h
  obtain ⟨l, ho, hl⟩ := open_cells hT f t hok fuel _ d p h
  rw [cellsOf_tab hT ht] at hl
  refine ⟨l, ho.fits, ?_⟩
  cases ha : ti.agg with
  | true =>
    obtain ⟨cs, rfl⟩ := okWide_agg hT ht ha hval
    unfold elemA; rw [ha]
    have hc : (Value.agg cs).cells = cs := rfl
    rw [hc] at ho
    refine .agg l cs (by have := ho.len; simpa using this) (fun u hu => ho.one u hu) (fun i y hy => ?_)
    have := ho.vr i y hy
    rw [List.getD_eq_getElem?_getD] at this
    rw [Array.getD_eq_getD_getElem?]; simpa using this
  | false =>
    have hc := okWide_cell hT ht ha hval
    rw [hc] at ho
    unfold elemA; rw [ha]
    have hl1 := ho.len
    match l, hl1 with
    | [y], _ => exact ho.vr 0 y rfl

/-- A contract in the kit's words. -/
theorem calls_of {f : FuncId} {fn : Func} {c : Code} {args : List AV} {σ : Store} {R : AV → Store → Prop} (h : ACalls P f args σ R) (hf : P.funcs[f]? = some fn) (hb : fn.body = some c) (hnm : fn.name ≠ "runtime.NumGoroutine") {w : World} {va : Array Value}
    (hrel : Rel σ w) (hva : VRs σ w args va) : Calls P f va w fun e w' => ∃ v, e = .returned v ∧ Post σ w R v w' := by
  have := h.out w #[] #[] va hrel ⟨rfl, by simp⟩ ⟨rfl, by simp⟩ hva
  have hrun : (invoke (.fn (.func f) #[]) (#[] ++ va)).run P w = .ok (.enter f va) w := by
    simp [invoke, callFunc, hf, hnm, hb]
  rw [hrun] at this
  exact this

theorem Step.below {w w' : World} {σ' : Store} (h : Step emptyS w σ' w') : Below w.heap.size w w' := ⟨h.os, h.tape, h.output, h.size, fun k hk => (h.keep k hk rfl).2⟩

/-- Arguments read behind the call as they did. -/
theorem trodAll_below {H : Type} {enc : TypeId × Value → H} (hl : laidOutB P = true) {W W' : World} (hb : Below W.heap.size W W') : ∀ {ts : List TypeId} {vs : List Value} {ds : List (DataW H)} {p : List MemPlace}, ts.all (fun t => P.readableRec t && decide (t < P.types.size)) = true →
    DataW.TrodAll enc P W 0 (fun _ => true) true ts vs ds p → (∀ x ∈ p, x.block < W.heap.size) → DataW.TrodAll enc P W' 0 (fun b => decide (b < W.heap.size)) true ts vs ds p
  | [], [], [], p, _, h, _ => h
  | t :: ts, v :: vs, d :: ds, p, hr, h, hlt => by
    obtain ⟨p1, p2, h1, h2, rfl⟩ := h
    simp only [List.all_cons, Bool.and_eq_true, decide_eq_true_eq] at hr
    exact ⟨p1, p2, Below.trod hl hr.1.1 hr.1.2 h1 hb (fun x hx => hlt x (by simp [hx])), trodAll_below hl hb (by simpa using hr.2) h2 (fun x hx => hlt x (by simp [hx])), rfl⟩
  | [], [], _ :: _, _, _, h, _ => h.elim
  | [], _ :: _, _, _, _, h, _ => by cases h
  | _ :: _, [], _, _, _, h, _ => by cases h
  | _ :: _, _ :: _, [], _, _, h, _ => by cases h

/-- A law's end: it said true, and nothing that was there has turned. -/
theorem law_post {H : Type} {enc : TypeId × Value → H} {fn : Func} {s : ChangeSpec} {W W' : World} {args : Array Value} {ds : List (DataW H)} {p : List MemPlace} {tb : TypeId} (hl : laidOutB P = true) (hr : fn.params.toList.all (fun t => P.readableRec t && decide (t < P.types.size)) = true)
    (htb : P.underlying tb = some .bool) (hrt : fn.resultTypes = #[tb]) (hv : s.vars = []) (hfn : s.fn H ds = { results := [.lit (.bool true)], args := ds }) (hA : DataW.TrodAll enc P W 0 (fun _ => true) true fn.params.toList args.toList ds p)
    (hW : DataW.Whole enc P fn.params.toList s.vars false W args.toList ds [] p) (hb : Below W.heap.size W W') : s.post enc P fn false true false false W args (.bool true) W' := by
  refine ⟨ds, [], p, [], p, [], hW, ?_, ?_, ?_, hb.frame _, fun h => by cases h⟩
  · rw [List.append_nil, hfn, hrt]
    exact trodAll_mk1 (shut_bool htb true)
  · rw [List.append_nil, hfn]
    exact trodAll_below hl hb hr hA (fun x hx => by simpa using hW.lt x hx)
  · rw [List.append_nil, hfn, hv]; rfl

end Go.Cr
