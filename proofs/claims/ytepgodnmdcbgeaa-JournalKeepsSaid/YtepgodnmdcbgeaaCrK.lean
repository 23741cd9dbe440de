/-
The abstract layer, part 11: one operation, reckoned, is sound.
No statement of the program; no condition.
-/
import Derived.Test.YtepgodnmdcbgeaaCrJ

namespace Go.Cr
open Go Go.RowKit

variable {P : Program} {T : Tab}

theorem lands_value {σ : Store} {w : World} {K : AV → Store → Prop} {s : Sem Value} (h : ∃ v w', s.run P w = .ok v w' ∧ Post σ w K v w') : Lands P (Post σ w K) ((do pure (.value (← s)) : Sem Next).run P w) := by
  obtain ⟨v, w', hr, hp⟩ := h
  simp only [Sem.run_bind, hr, Result.andThen_ok, Sem.run_pure]
  exact hp

theorem lands_same {σ : Store} {w : World} {K : AV → Store → Prop} {s : Sem Value} (hrel : Rel σ w) (h : ∃ v, s.run P w = .ok v w ∧ ∃ a, K a σ ∧ VR σ w a v) : Lands P (Post σ w K) ((do pure (.value (← s)) : Sem Next).run P w) := by
  obtain ⟨v, hr, a, hk, hv⟩ := h
  exact lands_value ⟨v, w, hr, .same hrel hv hk⟩

theorem binOrEq_sound (hT : TabOk P T) {σ : Store} {w : World} {op : BinOp} {a b : AV} {va vb : Value} {t : TypeId} {x y : Operand} {K : AV → Prop} (ha : VR σ w a va) (hb : VR σ w b vb) (h : binOrEq T op t a b K) :
    ∃ v, (do eqGuard op t x y va vb; binOp op t va vb : Sem Value).run P w = .ok v w ∧ ∃ r, K r ∧ VR σ w r v := by
  unfold binOrEq at h
  split at h
  · exact binA_sound ha hb h
  · exact binA_sound ha hb h
  · have key : ∀ (ti : TI), T.get t = some ti → ∀ {K' : Bool → Prop}, eqA ti.kind a b K' → ∃ r, (Op.equal t va vb).run P w = .ok r w ∧ K' r := by
      intro ti hti K' h'
      obtain ⟨⟨d, hd, hk⟩, _⟩ := hT t ti hti
      rw [← hk] at h'
      exact eqA_sound hd ha hb h'
    have guard : ∀ {k : TK} {K' : Bool → Prop}, eqA k a b K' → ∀ op, (eqGuard op t x y va vb).run P w = .ok () w ∧ (∀ r w', (Op.equal t va vb).run P w = .ok r w' → (binOp .eql t va vb).run P w = .ok (.bool r) w' ∧ (binOp .neq t va vb).run P w = .ok (.bool (!r)) w') := by
      intro k K' h' op
      unfold eqA at h'
      split at h' <;> first
        | exact h'.elim
        | (cases hb <;> cases ha <;> exact ⟨by unfold eqGuard; cases op <;> simp, fun r w' hr => ⟨by simp [binOp, hr], by simp [binOp, hr]⟩⟩)
    split at h
    · rename_i ti hti
      obtain ⟨r, r1, r2⟩ := key ti hti h
      obtain ⟨g1, g2⟩ := guard h .eql
      exact ⟨_, by simp only [Sem.run_bind, g1, Result.andThen_ok]; exact (g2 r w r1).1, _, r2, .val _⟩
    · rename_i ti hti
      obtain ⟨r, r1, r2⟩ := key ti hti h
      obtain ⟨g1, g2⟩ := guard h .neq
      exact ⟨_, by simp only [Sem.run_bind, g1, Result.andThen_ok]; exact (g2 r w r1).2, _, r2, .val _⟩
    · exact h.elim

theorem unA_sound {σ : Store} {w : World} {op : UnOp} {a : AV} {va : Value} {K : AV → Prop} (ha : VR σ w a va) (h : unA op a K) : ∃ v, (Op.unary op va).run P w = .ok v w ∧ ∃ r, K r ∧ VR σ w r v := by
  unfold unA at h
  split at h
  · cases ha; exact ⟨_, by simp [Op.unary], _, h, .val _⟩
  · cases ha; exact ⟨_, by simp [Op.unary, Op.intArith], _, h, .val _⟩
  · cases ha; exact ⟨_, by simp only [Op.unary, Op.intBits, Sem.run_pure], _, h, .val _⟩
  · exact h.elim

theorem vrs2 {σ : Store} {w : World} {x y : AV} {vs : Array Value} (h : VRs σ w [x, y] vs) : ∃ u v, vs = #[u, v] ∧ VR σ w x u ∧ VR σ w y v := by
  obtain ⟨hs, hv⟩ := h
  obtain ⟨l⟩ := vs
  match l, hs with
  | [u, v], _ => exact ⟨u, v, rfl, by simpa using hv 0 x rfl, by simpa using hv 1 y rfl⟩

theorem vrs1 {σ : Store} {w : World} {x : AV} {vs : Array Value} (h : VRs σ w [x] vs) : ∃ u, vs = #[u] ∧ VR σ w x u := by
  obtain ⟨hs, hv⟩ := h
  obtain ⟨l⟩ := vs
  match l, hs with
  | [u], _ => exact ⟨u, rfl, by simpa using hv 0 x rfl⟩

theorem builtinA_sound (hT : TabOk P T) {σ : Store} {w : World} {b : Builtin} {ts : Array TypeId} {ty : TypeId} {cs : Array Bool} {args : List AV} {vs : Array Value} {K : AV → Store → Prop} {other : Prop} (hrel : Rel σ w) (hargs : VRs σ w args vs)
    (h : builtinA T b ts.toList args σ K other) : other ∨ Lands P (Post σ w K) ((builtin b ts ty cs vs).run P w) := by
  unfold builtinA at h
  split at h
  · rename_i t r x hts
    right
    obtain ⟨u, rfl, hu⟩ := vrs1 hargs
    have ht : ts[0]? = some t := by rw [← Array.getElem?_toList, hts]; rfl
    exact lands_same hrel (lenA_sound hT ht hrel hu h)
  · rename_i t t2 s x hts
    split at h
    case h_2 => exact .inl h
    right
    rename_i hk
    obtain ⟨u, v, rfl, hu, hv⟩ := vrs2 hargs
    have e : ts = #[t, t2] := by rw [← hts]
    rw [e]
    exact lands_value (appendA_sound hT hk hrel hu hv h)
  · rename_i t r d x hts
    right
    obtain ⟨u, v, rfl, hu, hv⟩ := vrs2 hargs
    have ht : ts[0]? = some t := by rw [← Array.getElem?_toList, hts]; rfl
    exact lands_value (copyA_sound hT ht hrel hu hv h)
  · right
    unfold minA at h
    split at h
    · obtain ⟨u, v, rfl, hu, hv⟩ := vrs2 hargs
      cases hu; cases hv
      rename_i k x k' y
      have hr : (Builtin.min_ ts ty #[.int k x, .int k' y]).run P w = .ok (.int k (if y < x then y else x)) w := rfl
      exact lands_same hrel ⟨_, hr, _, h, .val _⟩
    · exact h.elim
  · right
    unfold maxA at h
    split at h
    · obtain ⟨u, v, rfl, hu, hv⟩ := vrs2 hargs
      cases hu; cases hv
      rename_i k x k' y
      have hr : (Builtin.max_ ts ty #[.int k x, .int k' y]).run P w = .ok (.int k (if y > x then y else x)) w := rfl
      exact lands_same hrel ⟨_, hr, _, h, .val _⟩
    · exact h.elim
  · exact .inl h

theorem VR.fn_inv {σ : Store} {w : World} {f : Fn} {fs cs : List AV} {v : Value} (h : VR σ w (.fn f fs cs) v) : ∃ vf vc, v = .func f vf vc ∧ VRs σ w fs vf ∧ VRs σ w cs vc := by
  cases h with
  | fn _ _ _ vf vc hf hc h1 h2 => exact ⟨vf, vc, rfl, ⟨hf, h1⟩, ⟨hc, h2⟩⟩

theorem opaque_out {σ : Store} {w : World} {n : Nat} {e : Env} {a : Act} {o : Oper} {K : AV → Store → Prop} (hrel : Rel σ w) (hfr : FR σ w n e a.tmps) (h : AOpaque P o.op o.type (o.op.operands.toList.map (V e)) σ K) :
    Lands P (Post σ w K) ((execOp a.eval o).run P w) := by
  refine h.out a.eval w o rfl rfl hrel (fun i x v hx hv => ?_)
  rw [List.getElem?_map, hx] at hv
  simp only [Option.map_some, Option.some.injEq] at hv
  exact hfr.V hv

theorem callA_sound (hT : TabOk P T) {σ : Store} {w : World} {n : Nat} {e : Env} {a : Act} {o : Oper} {c : Call} {K : AV → Store → Prop} (ho : o.op = .call c) (hrel : Rel σ w) (hfr : FR σ w n e a.tmps)
    (h : callA T P c o.type e σ K) : Lands P (Post σ w K) ((execOp a.eval o).run P w) := by
  unfold callA at h
  split at h
  · rename_i f hcal
    split at h
    · rename_i fv first cap args hf hargs
      obtain ⟨vf, vc, hv, h1, h2⟩ := (hfr.V hf).fn_inv
      have h3 := hfr.Vl hargs
      have h4 := h.out w vf vc _ hrel h1 h2 h3
      simp only [execOp, ho, resolve, hcal, Deferred.ofValue, hv, Sem.run_bind, Sem.run_pure, Result.andThen_ok]
      have e1 : c.args.map a.eval = (c.args.toList.map a.eval).toArray := by rw [← Array.toList_map]
      rw [e1]; exact h4
    · exact h.elim
  · rename_i b hcal
    split at h
    · rename_i args hargs
      have h3 := hfr.Vl hargs
      rcases builtinA_sound (ty := o.type) (cs := c.args.map fun | .const _ => true | _ => false) hT hrel h3 h with h' | h'
      · rw [← ho] at h'; exact opaque_out hrel hfr h'
      · simp only [execOp, ho, resolve, hcal, Sem.run_bind, Sem.run_pure, Result.andThen_ok, invoke]
        have e1 : c.args.map a.eval = (c.args.toList.map a.eval).toArray := by rw [← Array.toList_map]
        rw [e1]; exact h'
    · exact h.elim
  · rw [← ho] at h; exact opaque_out hrel hfr h

theorem Vo_ok {σ : Store} {w : World} {n : Nat} {e : Env} {a : Act} (h : FR σ w n e a.tmps) {o : Option Operand} {v : Option AV} (hv : Vo e o = some v) : OptVR σ w v (o.map a.eval) := by
  cases o with
  | none => simp only [Vo, Option.some.injEq] at hv; subst hv; trivial
  | some x =>
    simp only [Vo] at hv
    split at hv
    · rename_i u hx
      injection hv with hv; subst hv
      exact h.V hx
    · cases hv

theorem makeMapA_sound {σ : Store} {w : World} {t : TypeId} {K : AV → Store → Prop} (hrel : Rel σ w) (h : ∀ b, σ b = none → K (.val (.map (some b))) (σ.set b (.raw (.map #[] 0)))) :
    ∃ v w', (Instr.makeMap t none).run P w = .ok v w' ∧ Post σ w K v w' := by
  refine ⟨.map (some w.heap.size), w.alloc (.map #[] 0), by simp only [Instr.makeMap, Sem.run_bind, Sem.run_pure, Result.andThen_ok, run_newObj, World.alloc_eq], _, _, h w.heap.size (hrel.fresh (Nat.le_refl _)), .val _, hrel.alloc ?_, Step.alloc σ w _ _⟩
  exact ⟨heap_alloc_eq w _, fun c t fz => by simp⟩

theorem nilCheckA_sound {σ : Store} {w : World} {a : AV} {ρ : Operand → Value} {o : Oper} {x : Operand} {K : AV → Prop} (ho : o.op = .nilCheck x) (ha : VR σ w a (ρ x)) (h : nilCheckA a K) :
    (execOp ρ o).run P w = .ok (.value (ρ x)) w ∧ ∃ a', K a' ∧ VR σ w a' (ρ x) := by
  simp only [execOp, ho]
  generalize ρ x = va at ha ⊢
  unfold nilCheckA at h
  split at h
  · cases ha; exact ⟨rfl, _, h, .val _⟩
  · refine ⟨?_, _, h, ha⟩
    cases ha; rfl
  · refine ⟨?_, _, h, ha⟩
    cases ha; rfl
  · refine ⟨?_, _, h, ha⟩
    cases ha; rfl
  · exact h.elim

set_option maxHeartbeats 4000000 in
theorem stepOp_sound (hT : TabOk P T) {σ : Store} {w : World} {n : Nat} {e : Env} {a : Act} {o : Oper} {K : AV → Store → Prop} (hrel : Rel σ w) (hfr : FR σ w n e a.tmps) (h : stepOp T P o.op o.type e σ K) :
    Lands P (Post σ w K) ((execOp a.eval o).run P w) := by
  unfold stepOp at h
  split at h
  · rename_i x ho
    split at h
    · rename_i v hv; simp only [execOp, ho, Sem.run_pure]; exact .same hrel (hfr.V hv) h
    · exact h.elim
  · rename_i x ho
    split at h
    · rename_i v hv; simp only [execOp, ho, Sem.run_pure]; exact .same hrel (hfr.V hv) h
    · exact h.elim
  · rename_i c x y ho
    split at h
    · rename_i t u v hc hx hy
      have hcv := hfr.V hc
      generalize hce : a.eval c = cv at hcv
      cases hcv
      simp only [execOp, ho, hce, asBool, Sem.run_bind, Sem.run_pure, Result.andThen_ok]
      cases t
      · exact .same hrel (hfr.V hy) h
      · exact .same hrel (hfr.V hx) h
    · exact h.elim
  · rename_i t ho; simp only [execOp, ho]; exact lands_value (allocA_sound hT hrel h)
  · rename_i t x ho
    split at h
    · rename_i v hv; simp only [execOp, ho]; exact lands_value (boxA_sound hrel (hfr.V hv) h)
    · exact h.elim
  · rename_i t parts ho
    split at h
    · rename_i l hl
      obtain ⟨h1, h2⟩ := Vp_sound hfr hl
      simp only [execOp, ho]
      exact lands_same hrel (buildA_sound hT (vparts := parts.map fun (i, x) => (i, a.eval x)) (by simpa using h1) (fun i p q hp hq => h2 i p q hp (by simpa using hq)) h)
    · exact h.elim
  · rename_i t len parts ho
    split at h
    · rename_i l hl
      obtain ⟨h1, h2⟩ := Vp_sound hfr hl
      simp only [execOp, ho]
      exact lands_value (buildSliceA_sound hT (vparts := parts.map fun (i, x) => (i, a.eval x)) hrel (by simpa using h1) (fun i p q hp hq => h2 i p q hp (by simpa using hq)) h)
    · exact h.elim
  · rename_i t x ho
    split at h
    · rename_i v hv
      simp only [execOp, ho]
      obtain ⟨u, r1, r2⟩ := loadA_sound hT hrel (hfr.V hv) h
      exact lands_value ⟨u, w, r1, r2⟩
    · exact h.elim
  · rename_i t x y ho
    split at h
    · rename_i u v hx hy
      obtain ⟨w', r1, r2⟩ := storeA_sound hT hrel (hfr.V hx) (hfr.V hy) h
      simp only [execOp, ho, Sem.run_bind, r1, Result.andThen_ok, Sem.run_pure]
      exact r2
    · exact h.elim
  · rename_i x ho
    split at h
    · rename_i v hv
      obtain ⟨h1, a', h2, h3⟩ := nilCheckA_sound (P := P) ho (hfr.V hv) h
      rw [h1]
      exact .same hrel h3 h2
    · exact h.elim
  · rename_i op t x y _ ho
    split at h
    · rename_i u v hx hy
      simp only [execOp, ho]
      exact lands_same hrel (binOrEq_sound hT (hfr.V hx) (hfr.V hy) h)
    · exact h.elim
  · rename_i op _ x ho
    split at h
    · rename_i v hv; simp only [execOp, ho]; exact lands_same hrel (unA_sound (hfr.V hv) h)
    · exact h.elim
  · rename_i s d x ho
    split at h
    · rename_i v hv; simp only [execOp, ho]; exact lands_value (convertA_sound hT hrel (hfr.V hv) h)
    · exact h.elim
  · rename_i t x ho
    split at h
    · rename_i v ti hv hti
      obtain ⟨⟨d, hd, hk⟩, _⟩ := hT t ti hti
      split at h
      · exact h.elim
      · rename_i hne
        simp only [execOp, ho]
        refine lands_same hrel ⟨.iface t (a.eval x), ?_, _, h, .ifc t _ _ (hfr.V hv)⟩
        have : ∀ ms, d ≠ .interface ms := fun ms e => hne (by rw [← hk, e]; rfl)
        simp only [Instr.makeInterface, Sem.run_bind, run_underlying' hd, Result.andThen_ok]
        cases d <;> first | rfl | exact absurd rfl (this _)
    · exact h.elim
  · rename_i f first cap ho
    split at h
    · rename_i x y hx hy
      have h1 := hfr.Vl hx
      have h2 := hfr.Vl hy
      simp only [execOp, ho, Instr.makeFunc]
      refine lands_same hrel ⟨_, rfl, _, h, .fn f x y _ _ ?_ ?_ ?_ ?_⟩
      · have := h1.1; simpa using this
      · have := h2.1; simpa using this
      · intro i z hz; have := h1.2 i z hz; simpa [Array.getD_eq_getD_getElem?] using this
      · intro i z hz; have := h2.2 i z hz; simpa [Array.getD_eq_getD_getElem?] using this
    · exact h.elim
  · rename_i t ho
    simp only [execOp, ho, Option.map_none]
    exact lands_value (makeMapA_sound hrel h)
  · rename_i t l c ho
    split at h
    · rename_i u v hx hy; simp only [execOp, ho]; exact lands_value (makeSliceA_sound hT hrel (hfr.V hx) (hfr.V hy) h)
    · exact h.elim
  · rename_i t x lo hi ho
    split at h
    · rename_i u l hh hx hl hhi
      simp only [execOp, ho, Option.map_none]
      exact lands_same hrel (sliceA_sound hT (hfr.V hx) (Vo_ok hfr hl) (Vo_ok hfr hhi) h)
    · exact h.elim
  · rename_i t x lo hi mx ho
    split at h
    · rename_i u l hh m hx hl hhi hm
      simp only [execOp, ho, Option.map_some]
      exact lands_same hrel (slice3A_sound hT (hfr.V hx) (Vo_ok hfr hl) (hfr.V hhi) (hfr.V hm) h)
    · exact h.elim
  · rename_i s x f ho
    split at h
    · rename_i v hv; simp only [execOp, ho]; exact lands_same hrel (fieldAddrA_sound hT (hfr.V hv) h)
    · exact h.elim
  · rename_i t x f ho
    split at h
    · rename_i v hv; simp only [execOp, ho]; exact lands_same hrel (fieldA_sound hT (hfr.V hv) h)
    · exact h.elim
  · rename_i t x i ho
    split at h
    · rename_i u v hx hy; simp only [execOp, ho]; exact lands_same hrel (indexAddrA_sound hT (hfr.V hx) (hfr.V hy) h)
    · exact h.elim
  · rename_i t x i ho
    split at h
    · rename_i u v hx hy; simp only [execOp, ho]; exact lands_same hrel (indexA_sound hT (hfr.V hx) (hfr.V hy) h)
    · exact h.elim
  · rename_i x i ho
    split at h
    · rename_i vs hv
      rw [nth_eq] at h
      have hvv := hfr.V hv
      generalize hce : a.eval x = cv at hvv
      cases hvv with
      | tup _ us hs hv' =>
        cases hn : vs[i]? with
        | none => rw [hn] at h; exact h.elim
        | some y =>
          rw [hn] at h
          have hlt := lt_of_get hn
          have hu : us[i]? = some (us.getD i undefV) := by
            have : i < us.size := by omega
            simp [Array.getD, this]
          simp only [execOp, ho, hce, Instr.extract, hu]
          exact lands_same hrel ⟨_, rfl, _, h, hv' i y hn⟩
    · exact h.elim
  · rename_i c ho; exact callA_sound hT ho hrel hfr h
  · exact h.elim
  · exact opaque_out hrel hfr h

end Go.Cr
