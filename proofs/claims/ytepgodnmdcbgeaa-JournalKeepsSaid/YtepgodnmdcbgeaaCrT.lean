/-
The abstract layer, part 20: ranging over a function.
No statement of the program; no condition.
-/
import Derived.Test.YtepgodnmdcbgeaaCrS

namespace Go.Cr
open Go Go.RowKit

variable {P : Program} {T : Tab}

def bindE : List Tmp → List AV → Env → Env
  | p :: ps, a :: as, e => bindE ps as ((p, a) :: e)
  | _, _, e => e

theorem FR.bind {σ : Store} {w : World} {n : Nat} : ∀ (ps : List Tmp) (as : List AV) (vs : List Value) (e : Env) (t : Array Value), FR σ w n e t → (∀ p ∈ ps, p < n) → vs.length = as.length → (∀ i y, as[i]? = some y → VR σ w y (vs.getD i undefV)) →
    FR σ w n (bindE ps as e) ((ps.zip vs).foldl (fun t (p : Tmp × Value) => t.setIfInBounds p.1 p.2) t)
  | [], _, _, e, t, h, _, _, _ => by simpa [bindE] using h
  | p :: ps, [], [], e, t, h, _, _, _ => by simpa [bindE] using h
  | p :: ps, a :: as, [], e, t, h, _, hl, _ => by simp at hl
  | p :: ps, [], v :: vs, e, t, h, _, hl, _ => by simp at hl
  | p :: ps, a :: as, v :: vs, e, t, h, hp, hl, hv => by
    simp only [bindE, List.zip_cons_cons, List.foldl_cons]
    refine FR.bind ps as vs _ _ (h.put (hp p List.mem_cons_self) (hv 0 a rfl)) (fun q hq => hp q (List.mem_cons_of_mem _ hq)) (by simpa using hl) (fun i y hy => ?_)
    exact hv (i + 1) y (by simpa using hy)

theorem setAny {σ : Store} {w : World} (hrel : Rel σ w) {b : Nat} {r r' : Loop} {e : Env} (hσ : σ b = some (.loop r e)) (ht : r'.tmps = r.tmps) :
    Rel (σ.set b (.loop r' e)) { w with heap := w.heap.setIfInBounds b (.loop r') } ∧ Step σ w (σ.set b (.loop r' e)) { w with heap := w.heap.setIfInBounds b (.loop r') } := by
  obtain ⟨h1, h2⟩ := hrel b _ hσ
  obtain ⟨k1, k2⟩ := heapSet h1 (.loop r')
  have hs : Step σ w (σ.set b (.loop r' e)) { w with heap := w.heap.setIfInBounds b (.loop r') } := Step.write hσ rfl rfl rfl (by simp) k2 (fun c t fz hc => by
    rw [h1] at hc; injection hc with hc; cases hc)
  exact ⟨hrel.write hs k2 ⟨k1, fun i x hx => by rw [ht]; exact (h2 i x hx).step hs⟩, hs⟩

/-- How a round ends: on; or out, by a jump that waits. -/
def roundA (l : Nat) (r : Loop) (e : Env) (R : AV → Store → Prop) : Exit → Env → Store → Prop
  | .normal, _, σ' => σ' l = some (.loop { r with state := .busy } e) ∧ R (.val (.bool true)) (σ'.set l (.loop { r with state := .ready, pending := none } e))
  | .ret, _, σ' => σ' l = some (.loop { r with state := .busy } e) ∧ R (.val (.bool false)) (σ'.set l (.loop { r with state := .done, pending := some .ret } e))
  | .exit id, _, σ' => σ' l = some (.loop { r with state := .busy } e) ∧ R (.val (.bool false)) (σ'.set l (.loop { r with state := .done, pending := some (.exit id) } e))
  | _, _, _ => False

theorem run_setObj_loop {w : World} {l : Nat} {r : Loop} (hb : w.heap[l]? = some (.loop r)) (o : Obj) : (setObj l o).run P w = .ok () { w with heap := w.heap.setIfInBounds l o } := by
  simp [setObj, Sem.run, hb]

theorem run_getLoop {w : World} {l : Nat} {r : Loop} (hb : w.heap[l]? = some (.loop r)) : (Instr.getLoop l).run P w = .ok r w := by
  simp [Instr.getLoop, getObj, Sem.run, hb, Result.andThen]

theorem yield_rule {l : Nat} {r : Loop} {e : Env} {args : List AV} {σ : Store} {R : AV → Store → Prop} {n : Nat} (hσ : σ l = some (.loop r e)) (hst : r.state = .ready) (hn : r.tmps.size = n) (hps : r.params.toList.length = args.length)
    (hlt : ∀ p ∈ r.params.toList, p < n)
    (h : AW P (some l) n r.assign (fun x e' σ' => x = .normal ∧ σ' = σ ∧ AW P (some l) n r.body (roundA l r e R) e' (σ.set l (.loop { r with state := .busy } e))) (bindE r.params.toList args e) σ) :
    AInv P (.yield l) [] [] args σ R := by
  refine ⟨fun w vf vc va hrel h1 h2 h3 => ?_⟩
  have z1 : vf = #[] := Array.eq_empty_of_size_eq_zero h1.1
  have z2 : vc = #[] := Array.eq_empty_of_size_eq_zero h2.1
  subst z1 z2
  obtain ⟨hb, hbe⟩ := hrel l _ hσ
  have hfr0 : FR σ w n e r.tmps := ⟨hn, hbe⟩
  have hsz : va.size = r.params.size := by rw [h3.1, ← hps, Array.length_toList]
  have hfr : FR σ w n (bindE r.params.toList args e) ((r.params.zip va).foldl (fun t (p : Tmp × Value) => t.setIfInBounds p.1 p.2) r.tmps) := by
    have := FR.bind r.params.toList args va.toList e r.tmps hfr0 hlt (by rw [Array.length_toList]; exact h3.1) (fun i y hy => by
      have := h3.2 i y hy
      rw [Array.getD_eq_getD_getElem?] at this
      rw [List.getD_eq_getElem?_getD, Array.getElem?_toList]; exact this)
    rw [← Array.foldl_toList, Array.toList_zip]
    exact this
  have run : (invoke (.fn (.yield l) #[]) (#[] ++ va)).run P w = .ok (.round l r.fn ((r.params.zip va).foldl (fun t (p : Tmp × Value) => t.setIfInBounds p.1 p.2) r.tmps) r.assign r.body) w := by
    show (Instr.yield l (#[] ++ va)).run P w = _
    rw [Array.empty_append]
    simp only [Instr.yield, Sem.run_bind, run_getLoop hb, Result.andThen_ok, hsz, ne_eq, not_true_eq_false, if_false, Sem.run_pure]
  rw [run]
  refine roundIn_of_wpIn (F := Fence.wide) trivial ?_
  refine wpIn_mono (h.out 0 { tmps := _, defers := [] } w (Nat.zero_le _) hrel hfr ⟨[], rfl, .nil, by simp⟩) ?_
  rintro x a1 w1 ⟨e', σ', ⟨rfl, rfl, hbody⟩, hrel1, hfr1, hdf1, hst1⟩
  obtain ⟨hb1, _⟩ := hrel1 l _ hσ
  refine ⟨{ w1 with heap := w1.heap.setIfInBounds l (.loop { r with state := .busy }) }, ?_, ?_⟩
  · simp only [Instr.beginRound, Sem.run_bind, run_getLoop hb1, Result.andThen_ok, run_setObj_loop hb1, hst, Sem.run_pure]
  · obtain ⟨s1, s2⟩ := setAny hrel1 hσ (r' := { r with state := .busy }) rfl
    refine wpIn_mono (hbody.out 0 a1 _ (Nat.zero_le _) s1 (hfr1.step s2) (hdf1.step s2)) ?_
    rintro x a2 w2 ⟨e2, σ2, hq, hrel2, hfr2, hdf2, hst2⟩
    have fin : ∀ (r' : Loop) (v : Bool), r'.tmps = r.tmps → σ2 l = some (.loop { r with state := .busy } e) → R (.val (.bool v)) (σ2.set l (.loop r' e)) →
        ∃ v', Ending.returned (.bool v) = .returned v' ∧ Post σ' w R v' { w2 with heap := w2.heap.setIfInBounds l (.loop r') } := by
      intro r' v ht hl hR
      obtain ⟨t1, t2⟩ := setAny hrel2 hl (r' := r') ht
      exact ⟨_, rfl, _, _, hR, .val _, t1, ((hst1.trans s2).trans hst2).trans t2⟩
    have hb2 : ∀ {r'}, σ2 l = some (.loop r' e) → w2.heap[l]? = some (.loop r') := fun hl => (hrel2 l _ hl).1
    cases x with
    | normal =>
      obtain ⟨q1, q2⟩ := hq
      exact ⟨_, _, by simp only [Instr.endRound, Sem.run_bind, run_getLoop (hb2 q1), Result.andThen_ok, run_setObj_loop (hb2 q1), Sem.run_pure]; rfl, fin { r with state := .ready, pending := none } true rfl q1 q2⟩
    | ret =>
      obtain ⟨q1, q2⟩ := hq
      exact ⟨_, _, by simp only [Instr.endRound, Sem.run_bind, run_getLoop (hb2 q1), Result.andThen_ok, run_setObj_loop (hb2 q1), Sem.run_pure]; rfl, fin { r with state := .done, pending := some .ret } false rfl q1 q2⟩
    | exit id =>
      obtain ⟨q1, q2⟩ := hq
      exact ⟨_, _, by simp only [Instr.endRound, Sem.run_bind, run_getLoop (hb2 q1), Result.andThen_ok, run_setObj_loop (hb2 q1), Sem.run_pure]; rfl, fin { r with state := .done, pending := some (.exit id) } false rfl q1 q2⟩
    | _ => exact hq.elim

/-- **for .. := range g { .. }**, g a function of the program's with a body. -/
theorem AW.rangeFunc {n : Nat} {g : Operand} {ps : Array Tmp} {assign body : Code} {Q : Exit → Env → Store → Prop} {e : Env} {σ : Store} {gf : FuncId} {cap : List AV} {fn : Func} (hV : V e g = some (.fn (.func gf) [] cap))
    (hf : P.funcs[gf]? = some fn) (hname : (fn.name == "runtime.NumGoroutine") = false) {c : Code} (hb : fn.body = some c)
    (h : ∀ l r, σ l = none → r.state = .ready → r.pending = none → r.params = ps → r.assign = assign → r.body = body → r.tmps.size = n → AInv P (.func gf) [] cap [.fn (.yield l) [] []] (σ.set l (.loop r e)) (fun _ σ' =>
      ∃ r', σ' l = some (.loop r' e) ∧ r'.state ≠ .busy ∧ match r'.pending with
        | none => Q .normal e (σ'.del l)
        | some c => AW P none n c Q e (σ'.del l))) :
    AW P none n (.rangeFunc g ps assign body) Q e σ := by
  refine ⟨fun B a w hB hrel hfr hdf => wpIn_rangeFunc fun fnid _ => ?_⟩
  obtain ⟨vf, vc, hv, k1, k2⟩ := (hfr.V hV).fn_inv
  have z1 : vf = #[] := Array.eq_empty_of_size_eq_zero k1.1
  subst z1
  let r : Loop := { state := .ready, pending := none, fn := fnid, tmps := a.tmps, params := ps, assign := assign, body := body, defers := w.heap.size }
  let w1 := w.alloc (.deferred (some []))
  have sz1 : w1.heap.size = w.heap.size + 1 := World.size_alloc _ _
  have st1 : Step σ w σ w1 := Step.alloc' σ w _
  have rel1 : Rel σ w1 := fun b o hbo => (hrel b o hbo).step st1 (heap_alloc_lt (hrel.lt hbo))
  let w2 := w1.alloc (.loop r)
  have st2 : Step σ w1 (σ.set w1.heap.size (.loop r e)) w2 := Step.alloc σ w1 _ _
  have rel2 : Rel (σ.set w1.heap.size (.loop r e)) w2 := rel1.alloc ⟨heap_alloc_eq w1 _, fun i x hx => (hfr.2 i x hx).step (st1.trans st2)⟩
  have hσl : σ w1.heap.size = none := rel1.fresh (Nat.le_refl _)
  have hh := h w1.heap.size r hσl rfl rfl rfl rfl rfl hfr.1
  have st12 := st1.trans st2
  have run : (invoke (.fn (.func gf) vc) (#[] ++ #[.func (.yield w1.heap.size) #[] #[]])).run P w2 = .ok (.enter gf (#[] ++ #[.func (.yield w1.heap.size) #[] #[]] ++ vc)) w2 := by
    have h1 : fn.name ≠ "runtime.NumGoroutine" := by simpa using hname
    show (callFunc gf (#[] ++ #[.func (.yield w1.heap.size) #[] #[]] ++ vc)).run P w2 = _
    simp [callFunc, hf, h1, hb]
  have hc := hh.out w2 #[] vc #[.func (.yield w1.heap.size) #[] #[]] rel2 ⟨rfl, by simp⟩ (k2.step st12) ⟨rfl, fun i y hy => by
    cases i with
    | zero => simp at hy; subst hy; exact .fn _ _ _ _ _ rfl rfl (by simp) (by simp)
    | succ i => simp at hy⟩
  rw [run] at hc
  have hc' : Calls P gf (#[] ++ #[.func (.yield w1.heap.size) #[] #[]] ++ vc) w2 _ := hc
  refine ⟨w1.heap.size, [{ target := .collected w.heap.size, args := #[] }], w2, { target := .fn (.func gf) vc, args := #[.func (.yield w1.heap.size) #[] #[]] }, w2, gf, #[] ++ #[.func (.yield w1.heap.size) #[] #[]] ++ vc, w2, ?_, ?_, ?_, ?_, ?_, ?_⟩
  · show (Instr.enterLoop fnid a.tmps ps assign body none).run P w = _
    rw [run_enterLoop_outer, sz1]
  · simp only [resolve, hv]
    simp [Deferred.ofValue, Act.eval]
  · intro f' _; trivial
  · simpa using run
  · intro hd; simp [Fen, Fence.wide] at hd
  · have h2 := (callsIn_wide (n := 0 - 1)).2 hc'
    refine CallsIn.mono (F := Fen none) h2 ?_
    rintro ex w3 ⟨v, rfl, av, σ', ⟨r', hl, hs, hpend⟩, hvr, hrel3, hst3⟩
    obtain ⟨hb3, _⟩ := hrel3 _ _ hl
    let w4 : World := { w3 with heap := w3.heap.setIfInBounds w1.heap.size (.loop { r' with state := .exhausted }) }
    have hend : (Instr.endLoop w1.heap.size).run P w3 = .ok r'.pending w4 := by
      have hnb : (r'.state == .busy) = false := by
        cases hx : r'.state <;> simp_all
      simp only [Instr.endLoop, Sem.run_bind, run_getLoop hb3, Result.andThen_ok, hnb, Bool.false_eq_true, if_false, run_setObj_loop hb3, Sem.run_pure]; rfl
    obtain ⟨s1, s2⟩ := setAny hrel3 hl (r' := { r' with state := .exhausted }) rfl
    have hnl : w.heap.size ≠ w1.heap.size := by omega
    have hσD : (σ.set w1.heap.size (.loop r e)) w.heap.size = none := by
      rw [Store.get_set_ne _ hnl]; exact hrel.fresh (Nat.le_refl _)
    have hD2 : w2.heap[w.heap.size]? = some (.deferred (some [])) := (heap_alloc_lt (by omega)).trans (heap_alloc_eq w _)
    obtain ⟨m1, m2⟩ := hst3.keep w.heap.size (by
      show _ < w2.heap.size
      have : w2.heap.size = w1.heap.size + 1 := World.size_alloc _ _
      omega) hσD
    have hfin : Step σ w (σ'.del w1.heap.size) w4 := by
      refine ((st12.trans hst3).trans s2).less fun b hb => ?_
      simp only [Store.set] at hb
      simp only [Store.del]
      split
      · rfl
      · rename_i hne; rw [if_neg hne] at hb; exact hb
    have hsub : ∀ b o, (σ'.del w1.heap.size) b = some o → (σ'.set w1.heap.size (.loop { r' with state := .exhausted } e)) b = some o := fun b o hbo => by
      simp only [Store.del] at hbo
      split at hbo
      · cases hbo
      · rename_i hne; simp only [Store.set, if_neg hne]; exact hbo
    have hrel4 : Rel (σ'.del w1.heap.size) w4 := s1.less hsub
    have hD4 : w4.heap[w.heap.size]? = some (.deferred (some [])) := by
      obtain ⟨_, k2⟩ := heapSet hb3 (.loop { r' with state := .exhausted })
      exact (k2 _ hnl).trans (m2.trans hD2)
    have hdf4 : DF B (σ'.del w1.heap.size) w4 ({ target := .collected w.heap.size, args := #[] } :: a.defers) := by
      obtain ⟨Ds, hd1, hd2, hd3⟩ := hdf.step hfin
      obtain ⟨Ds0, hd4, hd5, hd6⟩ := hdf
      have : Ds = Ds0 := by
        rw [hd1] at hd4
        exact (List.map_inj_right (fun a b hab => by injection hab with h1 h2; injection h1)).1 hd4
      subst this
      refine ⟨w.heap.size :: Ds, by simp [hd1], List.nodup_cons.2 ⟨fun hm => absurd (hd6 _ hm).2.1 (by omega), hd2⟩, fun D hD => ?_⟩
      rcases List.mem_cons.1 hD with rfl | hD
      · refine ⟨hB, lt_of_heap hD4, ?_, hD4⟩
        simp only [Store.del, if_neg hnl]; exact m1
      · exact hd3 D hD
    refine ⟨r'.pending, w4, hend, ?_⟩
    cases hp : r'.pending with
    | none =>
      rw [hp] at hpend
      exact ⟨e, _, hpend, hrel4, hfr.step hfin, hdf4, hfin⟩
    | some c =>
      rw [hp] at hpend
      refine wpIn_mono (hpend.out B { a with defers := { target := .collected w.heap.size, args := #[] } :: a.defers } w4 (Nat.le_trans hB hfin.size) hrel4 (hfr.step hfin) hdf4) ?_
      rintro x a5 w5 ⟨e5, σ5, q1, q2, q3, q4, q5⟩
      exact ⟨e5, σ5, q1, q2, q3, q4, hfin.trans q5⟩

end Go.Cr
