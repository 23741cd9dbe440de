/-
The abstract layer, part 19: going over a map; a copy of a map; what an interface holds.
No statement of the program; no condition.
-/
import Derived.Test.YtepgodnmdcbgeaaCrR
import Derived.Laws.Externs

namespace Go.Cr
open Go Go.RowKit

variable {P : Program} {T : Tab}

/-! ### Going over a map -/

/-- The rounds done: which entries were told, in that order. -/
structure IterIs (es : Array MapEntry) (done : List Nat) (seen : Array Nat) : Prop where
  eq : seen.toList = done.map fun j => ((es[j]?).map (·.born)).getD 0
  nodup : done.Nodup
  lt : ∀ j ∈ done, j < es.size

theorem IterIs.empty (es : Array MapEntry) : IterIs es [] #[] := ⟨rfl, by simp, by simp⟩

section
variable {κ : Type} {enc : κ → Value}

theorem MapIs.size {es : Array MapEntry} {clock : Nat} {l : List (κ × Value)} (h : MapIs enc es clock l) : es.size = l.length := by
  have := congrArg List.length h.kv
  simpa using this

theorem MapIs.at {es : Array MapEntry} {clock : Nat} {l : List (κ × Value)} (h : MapIs enc es clock l) {j : Nat} {p : κ × Value} (hp : l[j]? = some p) : ∃ e, es[j]? = some e ∧ e.key = enc p.1 ∧ e.val = p.2 := by
  have hj : j < es.size := by rw [h.size]; exact (List.getElem?_eq_some_iff.1 hp).1
  have hkv := congrArg (fun x => x[j]?) h.kv
  simp only [List.getElem?_map, hp] at hkv
  have e1 : es.toList[j]? = some es[j] := by simp [hj]
  rw [e1] at hkv
  simp at hkv
  exact ⟨es[j], by simp [hj], hkv.1, hkv.2⟩

theorem born_inj {es : Array MapEntry} (h : (es.toList.map (·.born)).Nodup) {i j : Nat} {a b : MapEntry} (hi : es[i]? = some a) (hj : es[j]? = some b) (he : a.born = b.born) : i = j := by
  have hi' : i < es.size := by
    by_cases hlt : i < es.size
    · exact hlt
    · rw [Array.getElem?_eq_none (by omega)] at hi; cases hi
  have hj' : j < es.size := by
    by_cases hlt : j < es.size
    · exact hlt
    · rw [Array.getElem?_eq_none (by omega)] at hj; cases hj
  have e1 : (es.toList.map (·.born))[i]? = some a.born := by simp [hi]
  have e2 : (es.toList.map (·.born))[j]? = some b.born := by simp [hj]
  exact (List.getElem?_inj (by simpa using hi') h).1 (by rw [e1, e2, he])

theorem IterIs.mem {es : Array MapEntry} {done : List Nat} {seen : Array Nat} (h : IterIs es done seen) (hn : (es.toList.map (·.born)).Nodup) {j : Nat} {e : MapEntry} (he : es[j]? = some e) : e.born ∈ seen.toList ↔ j ∈ done := by
  rw [h.eq, List.mem_map]
  constructor
  · rintro ⟨i, hi, hb⟩
    have hlt := h.lt i hi
    have e1 : es[i]? = some es[i] := by simp [hlt]
    rw [e1] at hb
    have := born_inj hn e1 he (by simpa using hb)
    rw [← this]; exact hi
  · intro hj
    exact ⟨j, hj, by rw [he]; rfl⟩

theorem IterIs.push {es : Array MapEntry} {done : List Nat} {seen : Array Nat} (h : IterIs es done seen) {j : Nat} {e : MapEntry} (he : es[j]? = some e) (hj : j ∉ done) : IterIs es (done ++ [j]) (seen.push e.born) := by
  have hlt : j < es.size := by
    by_cases hlt : j < es.size
    · exact hlt
    · rw [Array.getElem?_eq_none (by omega)] at he; cases he
  refine ⟨by simp [h.eq, he], ?_, ?_⟩
  · rw [List.nodup_append]
    refine ⟨h.nodup, by simp, ?_⟩
    intro a ha b hb
    simp only [List.mem_singleton] at hb
    subst hb
    exact fun e => hj (e ▸ ha)
  · intro i hi
    rcases List.mem_append.1 hi with hi | hi
    · exact h.lt i hi
    · simp only [List.mem_singleton] at hi; subst hi; exact hlt

theorem range_rule (hT : TabOk P T) {t kt et : TypeId} {ti : TI} (ht : T.get t = some ti) (hti : ti.kind = .map kt et) {x : Operand} {ty : TypeId} {σ : Store} {m : Nat} {es : Array MapEntry} {clock : Nat} {K : AV → Store → Prop}
    (hm : σ m = some (.raw (.map es clock))) (h : ∀ r, σ r = none → K (ptrA r) (σ.set r (.raw (.mapIter (some m) clock #[] clock)))) : AOpaque P (.range t x) ty [some (.val (.map (some m)))] σ K := by
  refine ⟨fun ρ w op ho hty hrel hv => ?_⟩
  obtain ⟨⟨d, hd, hk2⟩, _⟩ := hT t ti ht
  rw [hti] at hk2; have := tk_map hk2; subst this
  have e1 : ρ x = .map (some m) := (hv 0 x _ (by simp [Op.operands]) rfl).val_inv
  obtain ⟨hb, _⟩ := hrel m _ hm
  have run : (Instr.range t (.map (some m))).run P w = .ok (.pointer (some ⟨w.heap.size, 0, none⟩)) (w.alloc (.mapIter (some m) clock #[] clock)) := by
    simp only [Instr.range, Sem.run_bind, run_underlying' hd, Result.andThen_ok, MapKept.run_getObj_map hb, Sem.run_pure, run_newObj, World.alloc_eq]
  simp only [execOp, ho, e1, Sem.run_bind, run, Result.andThen_ok, Sem.run_pure]
  exact ⟨_, _, h w.heap.size (hrel.fresh (Nat.le_refl _)), .val _, hrel.alloc ⟨heap_alloc_eq w _, fun c t fz => by simp⟩, Step.alloc σ w _ _⟩

theorem next_rule {x : Operand} {ty : TypeId} {σ : Store} {m r : Nat} {es : Array MapEntry} {clock : Nat} {l : List (κ × Value)} {done : List Nat} {seen : Array Nat} {K : AV → Store → Prop}
    (hr : σ r = some (.raw (.mapIter (some m) clock seen clock))) (hm : σ m = some (.raw (.map es clock))) (hl : MapIs enc es clock l) (hi : IterIs es done seen)
    (hend : (∀ j, j < l.length → j ∈ done) → K (.tup [.val (.bool false)]) σ)
    (hstep : ∀ j p seen', l[j]? = some p → j ∉ done → IterIs es (done ++ [j]) seen' → K (.tup [.val (.bool true), .val (enc p.1), .val p.2]) (σ.set r (.raw (.mapIter (some m) clock seen' clock)))) :
    AOpaque P (.next x false) ty [some (ptrA r)] σ K := by
  refine ⟨fun ρ w op ho hty hrel hv => ?_⟩
  have e1 : ρ x = .pointer (some ⟨r, 0, none⟩) := (hv 0 x _ (by simp [Op.operands]) rfl).val_inv
  obtain ⟨hb, _⟩ := hrel m _ hm
  obtain ⟨hbr, _⟩ := hrel r _ hr
  rcases run_next_at (P := P) w op.type r m clock clock seen es clock hbr hb hl.born (Nat.le_refl _) with ⟨h0, hrun⟩ | ⟨e, he, w1, hal, hrun⟩
  · simp only [execOp, ho, e1, Sem.run_bind, hrun, Result.andThen_ok, Sem.run_pure]
    refine Post.same hrel ?_ (hend fun j hj => ?_)
    · refine .tup _ _ rfl fun i y hy => ?_
      cases i with
      | zero => simp at hy; subst hy; exact .val _
      | succ i => simp at hy
    · have hj' : j < es.size := by rw [hl.size]; exact hj
      have e2 : es[j]? = some es[j] := by simp [hj']
      rw [← hi.mem hl.bnodup e2]
      unfold leftOf at h0
      have h1 := Array.eq_empty_of_size_eq_zero h0
      rw [Array.filter_eq_empty_iff] at h1
      have := h1 es[j] (by simp)
      simpa using this
  · have hmem : e ∈ es.toList ∧ e.born ∉ seen.toList := by
      unfold leftOf at he
      simp at he ⊢
      exact he
    obtain ⟨j, hj, hje⟩ := List.getElem_of_mem hmem.1
    have hj' : j < es.size := by simpa using hj
    have e2 : es[j]? = some e := by rw [← hje]; simp [hj']
    have hjl : j < l.length := by rw [← hl.size]; exact hj'
    obtain ⟨e', q1, q2, q3⟩ := hl.at (List.getElem?_eq_getElem hjl)
    rw [e2] at q1; injection q1 with q1; subst q1
    have hnd : j ∉ done := fun hd => hmem.2 ((hi.mem hl.bnodup e2).2 hd)
    have hk := hstep j l[j] _ (List.getElem?_eq_getElem hjl) hnd (hi.push e2 hnd)
    simp only [execOp, ho, e1, Sem.run_bind, hrun, Result.andThen_ok, Sem.run_pure]
    have hrel1 : Rel σ w1 ∧ Step σ w σ w1 := by
      rcases hal with rfl | rfl
      · exact ⟨hrel, .refl _ _⟩
      · exact ⟨hrel.drew, Step.drew _ _⟩
    obtain ⟨s1, s2⟩ := setRaw hrel1.1 hr (o' := .mapIter (some m) clock (seen.push e.born) clock) (by simp)
    refine ⟨_, _, hk, ?_, s1, hrel1.2.trans s2⟩
    rw [q2, q3]
    refine .tup _ _ rfl fun i y hy => ?_
    match i with
    | 0 => simp at hy; subst hy; exact .val _
    | 1 => simp at hy; subst hy; exact .val _
    | 2 => simp at hy; subst hy; exact .val _
    | i + 3 => simp at hy

theorem entry_rule {x : Operand} {ty : TypeId} {σ : Store} {m r : Nat} {es : Array MapEntry} {clock : Nat} {l : List (κ × Value)} {done : List Nat} {j : Nat} {p : κ × Value} {seen : Array Nat} {K : AV → Store → Prop}
    (hr : σ r = some (.raw (.mapIter (some m) clock seen clock))) (hm : σ m = some (.raw (.map es clock))) (hl : MapIs enc es clock l) (hi : IterIs es (done ++ [j]) seen) (hp : l[j]? = some p)
    (h : K (.tup [.val (enc p.1), .val p.2]) σ) : AOpaque P (.entry x) ty [some (ptrA r)] σ K := by
  refine ⟨fun ρ w op ho hty hrel hv => ?_⟩
  have e1 : ρ x = .pointer (some ⟨r, 0, none⟩) := (hv 0 x _ (by simp [Op.operands]) rfl).val_inv
  obtain ⟨hb, _⟩ := hrel m _ hm
  obtain ⟨hbr, _⟩ := hrel r _ hr
  obtain ⟨e, q1, q2, q3⟩ := hl.at hp
  have hs : seen = (Array.mk (done.map fun j => ((es[j]?).map (·.born)).getD 0)).push e.born := by
    apply Array.toList_inj.1
    rw [hi.eq]; simp [q1]
  rw [hs] at hbr
  have hem : e ∈ es.toList := by
    have := Array.mem_of_getElem? q1
    simpa using this
  have run := run_entry_at (P := P) w r m clock _ es clock e hbr hb hem hl.bnodup
  simp only [execOp, ho, e1, Sem.run_bind, run, Result.andThen_ok, Sem.run_pure]
  refine Post.same hrel ?_ h
  rw [q2, q3]
  refine .tup _ _ rfl fun i y hy => ?_
  match i with
  | 0 => simp at hy; subst hy; exact .val _
  | 1 => simp at hy; subst hy; exact .val _
  | i + 2 => simp at hy
end

/-! ### A copy of a map -/

theorem VR.ifc_inv {σ : Store} {w : World} {t : TypeId} {a : AV} {v : Value} (h : VR σ w (.ifc t a) v) : ∃ u, v = .iface t u ∧ VR σ w a u := by
  cases h with
  | ifc _ _ u hu => exact ⟨u, rfl, hu⟩

theorem mapsClone {f : FuncId} {fn : Func} (hf : P.funcs[f]? = some fn) (hname : (fn.name == "runtime.NumGoroutine") = false) (hb : fn.body.isNone = true) (hn : Extern.findNext fn = none) (he : Extern.find fn = some Extern.MapsClone.clone)
    {t : TypeId} {σ : Store} {m : Nat} {es : Array MapEntry} {clock : Nat} {R : AV → Store → Prop} (hm : σ m = some (.raw (.map es clock)))
    (h : ∀ b, σ b = none → R (.ifc t (.val (.map (some b)))) (σ.set b (.raw (.map es clock)))) : ACalls P f [.ifc t (.val (.map (some m)))] σ R := by
  refine ⟨fun w vf vc va hrel h1 h2 h3 => ?_⟩
  have z1 : vf = #[] := Array.eq_empty_of_size_eq_zero h1.1
  have z2 : vc = #[] := Array.eq_empty_of_size_eq_zero h2.1
  subst z1 z2
  have z3 : va = #[.iface t (.map (some m))] := by
    have hv := h3.2 0 _ rfl
    have hs : va.size = 1 := h3.1
    have e : va = #[va.getD 0 undefV] := by
      apply Array.ext
      · simpa using hs
      · intro i h1 h2
        have : i = 0 := by simp at h2; exact h2
        subst this
        simp [Array.getD, hs]
    obtain ⟨u, hu, hv⟩ := hv.ifc_inv
    rw [e, hu, hv.val_inv]
  subst z3
  obtain ⟨hbm, _⟩ := hrel m _ hm
  have run : (Extern.MapsClone.clone #[.iface t (.map (some m))]).run P w = .ok (.iface t (.map (some w.heap.size))) (w.alloc (.map es clock)) := by
    have e : Extern.MapsClone.clone #[.iface t (.map (some m))] = (getObj m >>= fun o => match o with
      | .map entries clock => (newObj (.map entries clock) >>= fun n => pure (.iface t (.map (some n))))
      | _ => stuck "maps.clone: a map expected") := rfl
    rw [e]
    simp only [Sem.run_bind, MapKept.run_getObj_map hbm, Result.andThen_ok, run_newObj, World.alloc_eq, Sem.run_pure]
  have run2 : (invoke (.fn (.func f) #[]) (#[] ++ #[.iface t (.map (some m))])).run P w = .ok (.value (.iface t (.map (some w.heap.size)))) (w.alloc (.map es clock)) := by
    show (callFunc f ((#[] ++ #[.iface t (.map (some m))]) ++ #[])).run P w = _
    rw [run_callFunc_extern hf hname hb hn he]
    simp only [Array.empty_append, Array.append_empty, run, Result.andThen_ok]
  rw [run2]
  exact ⟨_, _, h w.heap.size (hrel.fresh (Nat.le_refl _)), .ifc _ _ _ (.val _), hrel.alloc ⟨heap_alloc_eq w _, fun c t fz => by simp⟩, Step.alloc σ w _ _⟩

theorem assert_rule (hT : TabOk P T) {t : TypeId} {ti : TI} (ht : T.get t = some ti) (hti : ∀ d, tkOf d = ti.kind → ∀ ms, d ≠ .interface ms) {x : Operand} {s ty : TypeId} {a : AV} {σ : Store} {K : AV → Store → Prop} (h : K a σ) :
    AOpaque P (.typeAssert x s t false) ty [some (.ifc t a)] σ K := by
  refine ⟨fun ρ w op ho hty hrel hv => ?_⟩
  obtain ⟨⟨d, hd, hk2⟩, _⟩ := hT t ti ht
  obtain ⟨v, e1, hv1⟩ := (hv 0 x _ (by simp [Op.operands]) rfl).ifc_inv
  have run : (Instr.typeAssert (.iface t v) s t false).run P w = .ok v w := by
    simp only [Instr.typeAssert, Sem.run_bind, run_underlying' hd, Result.andThen_ok]
    cases d <;> simp only [if_true, Bool.false_eq_true, if_false, Sem.run_pure]
    exact absurd rfl (hti _ hk2 _)
  simp only [execOp, ho, e1, Sem.run_bind, run, Result.andThen_ok, Sem.run_pure]
  exact Post.same hrel hv1 h

end Go.Cr
