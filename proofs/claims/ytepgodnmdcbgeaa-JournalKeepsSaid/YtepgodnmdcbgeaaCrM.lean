/-
The abstract layer, part 13: a function's contract out of its body; loops; what may be forgotten.
No statement of the program; no condition.
-/
import Derived.Test.YtepgodnmdcbgeaaCrL

namespace Go.Cr
open Go Go.RowKit

variable {P : Program} {T : Tab}

/-! ### Functions -/

def entryE : Nat → List AV → Env
  | _, [] => []
  | k, a :: r => (k, a) :: entryE (k + 1) r

theorem look_entry : ∀ (as : List AV) (k i : Nat) (x : AV), look (entryE k as) i = some x → k ≤ i ∧ as[i - k]? = some x
  | [], k, i, x, h => by simp [entryE, look] at h
  | a :: r, k, i, x, h => by
    simp only [entryE] at h
    by_cases hk : k = i
    · subst hk
      rw [look_cons_eq] at h
      simpa using h
    · rw [look_cons_ne hk] at h
      obtain ⟨h1, h2⟩ := look_entry r (k + 1) i x h
      refine ⟨by omega, ?_⟩
      have : i - k = (i - (k + 1)) + 1 := by omega
      rw [this]; simpa using h2

def resultsA (T : Tab) : List ResultVar → Env → Store → (List AV → Prop) → Prop
  | [], _, _, K => K []
  | .tmp t :: r, e, σ, K => match look e t with
    | some a => resultsA T r e σ fun as => K (a :: as)
    | none => False
  | .cell p t :: r, e, σ, K => match look e p with
    | some a => loadA T t a σ fun x _ => resultsA T r e σ fun as => K (x :: as)
    | none => False

def retQ (T : Tab) (rs : List ResultVar) (R : AV → Store → Prop) : Exit → Env → Store → Prop
  | .ret, e, σ => resultsA T rs e σ fun as => match as with
    | [a] => R a σ
    | as => R (.tup as) σ
  | .normal, e, σ => resultsA T rs e σ fun as => match as with
    | [a] => R a σ
    | as => R (.tup as) σ
  | _, _, _ => False

theorem nth_mono {cs : List AV} {i : Nat} {K1 K2 : AV → Prop} (hk : ∀ x, K1 x → K2 x) (h : match nth cs i with
    | some x => K1 x
    | none => False) : match nth cs i with
    | some x => K2 x
    | none => False := by
  cases hn : nth cs i with
  | none => rw [hn] at h; exact h
  | some x => rw [hn] at h; exact hk x h

theorem loadA_mono {t : TypeId} {a : AV} {σ : Store} {K1 K2 : AV → Store → Prop} (hk : ∀ x, K1 x σ → K2 x σ) (h : loadA T t a σ K1) : loadA T t a σ K2 := by
  unfold loadA at h ⊢
  cases hg : T.get t with
  | none => rw [hg] at h; exact h
  | some ti =>
    rw [hg] at h
    dsimp only at h ⊢
    cases hag : ti.agg
    · rw [hag] at h
      split at h
      · obtain ⟨cs, h1, h2⟩ := h
        refine ⟨cs, h1, ?_⟩
        dsimp only at h2 ⊢
        exact nth_mono hk h2
      · exact nth_mono hk h
      · exact h
    · rw [hag] at h
      split at h
      · obtain ⟨cs, h1, h2⟩ := h
        exact ⟨cs, h1, h2.1, hk _ h2.2⟩
      · exact ⟨h.1, hk _ h.2⟩
      · exact h

/-- One result read. -/
def resStep (t : Array Value) : ResultVar → Sem Value
  | .tmp i => pure (t.getD i undef)
  | .cell a ty => do loadVar ty (← asAddr (t.getD a undef))

theorem results_eq (fn : Func) (t : Array Value) : results fn t = (do
    let vs ← fn.results.mapM (resStep t)
    pure (if h : vs.size = 1 then vs[0] else .tuple vs)) := by
  unfold results
  congr 1

theorem resultsA_sound (hT : TabOk P T) {σ : Store} {w : World} {n : Nat} {e : Env} {t : Array Value} (hrel : Rel σ w) (hfr : FR σ w n e t) : ∀ (rs : List ResultVar) {K : List AV → Prop}, resultsA T rs e σ K →
    ∃ (as : List AV) (vs : List Value), (rs.mapM (resStep t)).run P w = .ok vs w ∧ K as ∧ vs.length = as.length ∧ ∀ (i : Nat) (y : AV), as[i]? = some y → VR σ w y (vs.getD i undefV)
  | [], K, h => ⟨[], [], rfl, h, rfl, by simp⟩
  | .tmp i :: r, K, h => by
    simp only [resultsA] at h
    split at h
    · rename_i a ha
      obtain ⟨as, vs, h1, h2, h3, h4⟩ := resultsA_sound hT hrel hfr r h
      refine ⟨a :: as, t.getD i undef :: vs, by simp only [List.mapM_cons, resStep, Sem.run_bind, Sem.run_pure, Result.andThen_ok, h1], h2, by simp [h3], fun j y hy => ?_⟩
      cases j with
      | zero => simp only [List.getElem?_cons_zero, Option.some.injEq] at hy; subst hy; exact hfr.2 i a ha
      | succ j => simpa using h4 j y (by simpa using hy)
    · exact h.elim
  | .cell p ty :: r, K, h => by
    simp only [resultsA] at h
    split at h
    · rename_i a ha
      obtain ⟨v, h1, x, σ', hk, hv, _, _⟩ := loadA_sound (P := P) (K := fun x σ' => (resultsA T r e σ fun as => K (x :: as)) ∧ σ' = σ) hT hrel (hfr.2 p a ha) (loadA_mono (fun x hx => ⟨hx, rfl⟩) h)
      obtain ⟨hk, rfl⟩ := hk
      obtain ⟨as, vs, r1, r2, r3, r4⟩ := resultsA_sound hT hrel hfr r hk
      have hload : ∃ ad, t.getD p undef = .pointer (some ad) ∧ (loadVar ty ad).run P w = .ok v w := by
        simp only [Instr.loadAt, Sem.run_bind] at h1
        have e0 : t.getD p undefV = t.getD p undef := rfl
        rw [e0] at h1
        unfold Instr.sureAddr at h1
        split at h1
        · rename_i ad hs; exact ⟨ad, hs, by simpa using h1⟩
        · simp at h1
      obtain ⟨ad, e1, e2⟩ := hload
      refine ⟨x :: as, v :: vs, by simp only [List.mapM_cons, resStep, Sem.run_bind, Sem.run_pure, Result.andThen_ok, e1, asAddr, e2, r1], r2, by simp [r3], fun j y hy => ?_⟩
      cases j with
      | zero => simp only [List.getElem?_cons_zero, Option.some.injEq] at hy; subst hy; exact hv
      | succ j => simpa using r4 j y (by simpa using hy)
    · exact h.elim

theorem taken {σ₀ σ : Store} {w₀ w : World} {n D : Nat} {e : Env} {t : Array Value} (hrel : Rel σ w) (hfr : FR σ w n e t) (hst : Step σ₀ w₀ σ w) (hD : w₀.heap.size ≤ D) (hσ : σ D = none) (hw : w.heap[D]? = some (.deferred (some []))) :
    Rel σ (w.putObj D (.deferred none)) ∧ FR σ (w.putObj D (.deferred none)) n e t ∧ Step σ₀ w₀ σ (w.putObj D (.deferred none)) ∧ ∀ x, x ≠ D → (w.putObj D (.deferred none)).heap[x]? = w.heap[x]? := by
  have hne : ∀ x, x ≠ D → (w.putObj D (.deferred none)).heap[x]? = w.heap[x]? := fun x hx => by
    simp only [World.putObj, Array.getElem?_setIfInBounds]
    rw [if_neg (fun e => hx e.symm)]
  have hsz : (w.putObj D (.deferred none)).heap.size = w.heap.size := by simp [World.putObj]
  have hcell : ∀ b o v, w.cell? ⟨b, o, none⟩ = some v → (w.putObj D (.deferred none)).cell? ⟨b, o, none⟩ = some v := fun b o v h => by
    have : b ≠ D := fun e => by subst e; simp [World.cell?, hw] at h
    rw [← h]; exact cell_of_heap (hne b this)
  have hvr : ∀ {a : AV} {v : Value}, VR σ w a v → VR σ (w.putObj D (.deferred none)) a v := by
    intro a v h
    induction h with
    | top v => exact .top v
    | val v => exact .val v
    | sl0 sz a cap => exact .sl0 sz a cap
    | sl l b off cap sz f hcap hsz' hσ' hb hc h1 _ ih => exact .sl l b off cap sz f hcap hsz' hσ' (by rw [hsz]; exact hb) (fun i hi => hcell _ _ _ (hc i hi)) h1 ih
    | arr b off len sz cap c t fz hcap hb hroom =>
      have : b ≠ D := fun e => by subst e; rw [hw] at hb; cases hb
      exact .arr b off len sz cap c t fz hcap ((hne b this).trans hb) hroom
    | iptr cs b off f hσ' hb hc h1 _ ih => exact .iptr cs b off f hσ' (by rw [hsz]; exact hb) (fun i hi => hcell _ _ _ (hc i hi)) h1 ih
    | agg cs vs hs' ho _ ih => exact .agg cs vs hs' ho ih
    | tup cs vs hs' _ ih => exact .tup cs vs hs' ih
    | fn f fs cs vf vc hf hc _ _ ih1 ih2 => exact .fn f fs cs vf vc hf hc ih1 ih2
    | ifc t a v _ ih => exact .ifc t a v ih
  refine ⟨fun b o hb => ?_, ⟨hfr.1, fun i x hx => hvr (hfr.2 i x hx)⟩, ?_, hne⟩
  · have hbd : b ≠ D := fun e => by subst e; rw [hσ] at hb; cases hb
    have := hrel b o hb
    cases o with
    | row cs => obtain ⟨c, t, fz, h1, h2, h3, h5, h4⟩ := this; exact ⟨c, t, fz, (hne b hbd).trans h1, h2, h3, h5, fun i y hy => hvr (h4 i y hy)⟩
    | raw o => exact ⟨(hne b hbd).trans this.1, this.2⟩
    | loop r e => exact ⟨(hne b hbd).trans this.1, fun i x hx => hvr (this.2 i x hx)⟩
  · refine ⟨hst.os, hst.tape, hst.output, by rw [hsz]; exact hst.size, fun b hb hb' => ?_, fun b c t fz hc => ?_⟩
    · obtain ⟨k1, k2⟩ := hst.keep b hb hb'
      exact ⟨k1, (hne b (by omega)).trans k2⟩
    · obtain ⟨c', fz', h1, h2⟩ := hst.shape b c t fz hc
      have : b ≠ D := fun e => by subst e; rw [hw] at h1; cases h1
      exact ⟨c', fz', (hne b this).trans h1, h2⟩

theorem leaves_marks (hT : TabOk P T) {fn : Func} {σ₀ σ : Store} {w₀ : World} {n : Nat} {e : Env} {t : Array Value} {R : AV → Store → Prop} : ∀ (Ds : List Nat) (w : World), Rel σ w → FR σ w n e t → Step σ₀ w₀ σ w →
    Ds.Nodup → (∀ D ∈ Ds, w₀.heap.size ≤ D ∧ D < w.heap.size ∧ σ D = none ∧ w.heap[D]? = some (.deferred (some []))) →
    (resultsA T fn.results.toList e σ fun as => match as with
      | [a] => R a σ
      | as => R (.tup as) σ) →
    LeavesInM Fence.wide 0 P fn t (fun en w' => ∃ v, en = .returned v ∧ Post σ₀ w₀ R v w') (Ds.map fun D => ⟨.collected D, #[]⟩) .returning w
  | [], w, hrel, hfr, hst, _, _, h => by
    obtain ⟨as, vs, h1, h2, h3, h4⟩ := resultsA_sound (P := P) hT hrel hfr fn.results.toList h
    have hr : (fn.results.mapM (resStep t)).run P w = .ok vs.toArray w := by
      rw [Array.mapM_eq_mapM_toList]
      simp only [Sem.run_map, h1, Result.andThen_ok]
    show ∃ v, (results fn t).run P w = .ok v w ∧ _
    match as, vs, h2, h3, h4, hr with
    | [a], [v], h2, _, h4, hr =>
      refine ⟨v, ?_, v, rfl, a, σ, h2, by simpa using h4 0 a rfl, hrel, hst⟩
      rw [results_eq]
      simp only [Sem.run_bind, hr, Result.andThen_ok]
      rfl
    | [], [], h2, _, h4, hr =>
      refine ⟨.tuple #[], ?_, _, rfl, _, σ, h2, .tup _ _ rfl (by simp), hrel, hst⟩
      rw [results_eq]
      simp only [Sem.run_bind, hr, Result.andThen_ok]
      rfl
    | a :: b :: as, v :: u :: vs, h2, h3, h4, hr =>
      refine ⟨.tuple (v :: u :: vs).toArray, ?_, _, rfl, _, σ, h2, .tup _ _ (by simpa using h3) (fun i y hy => ?_), hrel, hst⟩
      · rw [results_eq]
        simp only [Sem.run_bind, hr, Result.andThen_ok]
        rw [dif_neg (by simp)]; rfl
      · have := h4 i y hy
        simpa [Array.getD_eq_getD_getElem?, List.getD] using this
  | D :: Ds, w, hrel, hfr, hst, hnd, hD, h => by
    obtain ⟨d1, d2, d3, d4⟩ := hD D List.mem_cons_self
    obtain ⟨t1, t2, t3, t4⟩ := taken hrel hfr hst d1 d3 d4
    obtain ⟨hn, hnd'⟩ := List.nodup_cons.1 hnd
    refine ⟨by simp, .inl ⟨D, w.putObj D (.deferred none), rfl, run_takeDeferred d4, ?_⟩⟩
    refine leaves_marks hT Ds _ t1 t2 t3 hnd' (fun D' hD' => ?_) h
    obtain ⟨e1, e2, e3, e4⟩ := hD D' (List.mem_cons_of_mem _ hD')
    have hne : D' ≠ D := fun e => hn (e ▸ hD')
    exact ⟨e1, by simpa [World.putObj] using e2, e3, (t4 D' hne).trans e4⟩

/-- **A function's contract out of its body.** -/
theorem AInv.of_body (hT : TabOk P T) {f : FuncId} {fn : Func} {c : Code} {first captured args : List AV} {σ : Store} {R : AV → Store → Prop} (hf : P.funcs[f]? = some fn) (hb : fn.body = some c)
    (hnm : fn.name ≠ "runtime.NumGoroutine") (hlen' : Nat.ble (first.length + args.length + captured.length) fn.ntmps = true)
    (h : codeA T P none fn.ntmps c (retQ T fn.results.toList R) (entryE 0 (first ++ args ++ captured)) σ) : AInv P (.func f) first captured args σ R := by
  have hlen := Nat.le_of_ble_eq_true hlen'
  refine ⟨fun w vf vc va hrel h1 h2 h3 => ?_⟩
  have hrun : (invoke (.fn (.func f) vc) (vf ++ va)).run P w = .ok (.enter f (vf ++ va ++ vc)) w := by
    simp [invoke, callFunc, hf, hnm, hb]
  rw [hrun]
  show Calls P f (vf ++ va ++ vc) w _
  refine callsIn_wide.1 (callsIn_of_wp_marks (n := 0) hf hb trivial ?_ rfl)
  have hfr : FR σ w fn.ntmps (entryE 0 (first ++ args ++ captured)) (vf ++ va ++ vc ++ Array.replicate (fn.ntmps - (vf ++ va ++ vc).size) undef) := by
    have hs : (vf ++ va ++ vc).size = first.length + args.length + captured.length := by simp [h1.1, h2.1, h3.1]; omega
    refine ⟨by rw [Array.size_append, hs, Array.size_replicate]; omega, fun i x hx => ?_⟩
    obtain ⟨_, hx⟩ := look_entry _ _ _ _ hx
    simp only [Nat.sub_zero] at hx
    have hlt : i < (vf ++ va ++ vc).size := by rw [hs]; have := lt_of_get hx; simpa [Nat.add_assoc] using this
    have e1 : (vf ++ va ++ vc ++ Array.replicate (fn.ntmps - (vf ++ va ++ vc).size) undef).getD i undefV = (vf ++ va ++ vc).getD i undefV := by
      rw [Array.getD_eq_getD_getElem?, Array.getD_eq_getD_getElem?, Array.getElem?_append_left hlt]
    rw [e1]
    rw [Array.getD_eq_getD_getElem?]
    by_cases hi1 : i < first.length
    · rw [List.append_assoc, List.getElem?_append_left hi1] at hx
      have := h1.2 i x hx
      rw [Array.append_assoc, Array.getElem?_append_left (by rw [h1.1]; exact hi1), ← Array.getD_eq_getD_getElem?]; exact this
    · by_cases hi2 : i < first.length + args.length
      · rw [List.append_assoc, List.getElem?_append_right (by omega), List.getElem?_append_left (by omega)] at hx
        have := h3.2 _ x hx
        rw [Array.append_assoc, Array.getElem?_append_right (by rw [h1.1]; omega), h1.1, Array.getElem?_append_left (by rw [h3.1]; omega), ← Array.getD_eq_getD_getElem?]; exact this
      · rw [List.append_assoc, List.getElem?_append_right (by omega), List.getElem?_append_right (by omega)] at hx
        have := h2.2 _ x hx
        rw [Array.append_assoc, Array.getElem?_append_right (by rw [h1.1]; omega), h1.1, Array.getElem?_append_right (by rw [h3.1]; omega), h3.1, ← Array.getD_eq_getD_getElem?]; exact this
  have haw := (codeA_sound hT c h).out w.heap.size { tmps := vf ++ va ++ vc ++ Array.replicate (fn.ntmps - (vf ++ va ++ vc).size) undef, defers := [] } w (Nat.le_refl _) hrel hfr ⟨[], rfl, .nil, by simp⟩
  refine wpIn_mono haw ?_
  rintro ex a' w' ⟨e', σ', hq, hr, hf', ⟨Ds, hd1, hd2, hd3⟩, hs⟩
  cases ex with
  | normal => rw [bodyPostM, hd1]; exact leaves_marks hT Ds w' hr hf' hs hd2 hd3 hq
  | ret => rw [bodyPostM, hd1]; exact leaves_marks hT Ds w' hr hf' hs hd2 hd3 hq
  | _ => exact hq.elim

end Go.Cr
