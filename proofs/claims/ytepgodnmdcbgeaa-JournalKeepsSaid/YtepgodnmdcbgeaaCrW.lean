/-
The abstract layer, part 23: code, one statement at a time; a frame may see what it holds otherwise, between two statements.
No statement of the program; no condition.
-/
import Derived.Test.YtepgodnmdcbgeaaCrV

namespace Go.Cr
open Go Go.RowKit

variable {P : Program} {T : Tab}

theorem AW.seqA {ro : Option Nat} {n : Nat} {x y : Code} {Q : Exit → Env → Store → Prop} {e : Env} {σ : Store} (h : AW P ro n x (fun ex e' σ' => match ex with
      | .normal => AW P ro n y Q e' σ'
      | ex => Q ex e' σ') e σ) : AW P ro n (.seq x y) Q e σ := AW.seq (h.mono fun ex e' σ' hq => by cases ex <;> exact hq)
theorem AW.regA (hT : TabOk P T) {ro : Option Nat} {n id : Nat} {ops : Array Oper} {Q : Exit → Env → Store → Prop} {e : Env} {σ : Store} (h : runOps T P n ops.toList ops.toList e σ fun e' σ' => Q .normal e' σ') : AW P ro n (.region id ops false) Q e σ :=
  codeA_sound hT (.region id ops false) h
theorem AW.skipA {ro : Option Nat} {n : Nat} {Q : Exit → Env → Store → Prop} {e : Env} {σ : Store} (h : Q .normal e σ) : AW P ro n .skip Q e σ := ⟨fun _ _ _ _ h2 h3 h4 => wpIn_skip ⟨_, _, h, h2, h3, h4, .refl _ _⟩⟩
theorem AW.labelA {ro : Option Nat} {n l : Nat} {Q : Exit → Env → Store → Prop} {e : Env} {σ : Store} (h : Q .normal e σ) : AW P ro n (.label l) Q e σ := ⟨fun _ _ _ _ h2 h3 h4 => wpIn_label ⟨_, _, h, h2, h3, h4, .refl _ _⟩⟩
theorem AW.exitA {ro : Option Nat} {n id : Nat} {Q : Exit → Env → Store → Prop} {e : Env} {σ : Store} (h : Q (.exit id) e σ) : AW P ro n (.exit id) Q e σ := ⟨fun _ _ _ _ h2 h3 h4 => wpIn_exit ⟨_, _, h, h2, h3, h4, .refl _ _⟩⟩
theorem AW.retA {ro : Option Nat} {n : Nat} {Q : Exit → Env → Store → Prop} {e : Env} {σ : Store} (h : Q .ret e σ) : AW P ro n .ret Q e σ := ⟨fun _ _ _ _ h2 h3 h4 => wpIn_ret ⟨_, _, h, h2, h3, h4, .refl _ _⟩⟩
theorem AW.condA {ro : Option Nat} {n : Nat} {c : Operand} {x y : Code} {Q : Exit → Env → Store → Prop} {e : Env} {σ : Store} (h : match V e c with
    | some (.val (.bool t)) => bcase t (AW P ro n x Q e σ) (AW P ro n y Q e σ)
    | _ => False) : AW P ro n (.cond c x y) Q e σ := by
  split at h
  case h_2 => exact h.elim
  rename_i t hv
  refine ⟨fun B a w h1 h2 h3 h4 => ?_⟩
  have hc : a.eval c = .bool t := (h3.V hv).val_inv
  rcases bcase_elim h with ⟨rfl, h⟩ | ⟨rfl, h⟩
  · exact wpIn_cond_true hc (h.out B a w h1 h2 h3 h4)
  · exact wpIn_cond_false hc (h.out B a w h1 h2 h3 h4)
theorem AW.blockA {ro : Option Nat} {n id : Nat} {c : Code} {Q : Exit → Env → Store → Prop} {e : Env} {σ : Store} (h : AW P ro n c (fun ex e' σ' => match ex with
      | .exit j => match Nat.beq j id with
        | true => Q .normal e' σ'
        | false => Q (.exit j) e' σ'
      | ex => Q ex e' σ') e σ) : AW P ro n (.block id c) Q e σ := by
  refine ⟨fun B a w h1 h2 h3 h4 => wpIn_block (wpIn_mono (h.out B a w h1 h2 h3 h4) ?_)⟩
  rintro ex a' w' ⟨e', σ', hq, hr⟩
  cases ex with
  | exit j =>
    simp only [Exit.inBlock]
    dsimp only at hq
    split at hq
    · rename_i hj; rw [if_pos (Nat.eq_of_beq_eq_true hj)]; exact ⟨e', σ', hq, hr⟩
    · rename_i hj
      rw [if_neg (fun e => by rw [e, Nat.beq_refl] at hj; cases hj)]; exact ⟨e', σ', hq, hr⟩
  | _ => exact ⟨e', σ', hq, hr⟩
theorem AW.scopeA {ro : Option Nat} {n : Nat} {c : Code} {Q : Exit → Env → Store → Prop} {e : Env} {σ : Store} (h : AW P ro n c (fun ex e' σ' => match ex with
      | .goto _ => False
      | ex => Q ex e' σ') e σ) : AW P ro n (.scope c) Q e σ := by
  refine ⟨fun B a w h1 h2 h3 h4 => wpIn_scope (wpIn_mono (h.out B a w h1 h2 h3 h4) ?_)⟩
  rintro ex a' w' ⟨e', σ', hq, hr⟩
  cases ex with
  | goto l => exact hq.elim
  | _ => exact ⟨e', σ', hq, hr⟩

/-- A loop, step by step. -/
theorem AW.loopA {ι : Type} {ro : Option Nat} {n : Nat} {c : Code} {Q : Exit → Env → Store → Prop} {e : Env} {σ : Store} (I : ι → Prop) (E : ι → Env) (S : ι → Store) (μ : ι → Nat) (i₀ : ι) (h0 : I i₀) (hE : Sub e (E i₀)) (hS : SubS σ (S i₀))
    (round : ∀ i, I i → AW P ro n c (roundQ I E S μ i Q) (E i) (S i)) : AW P ro n (.loop c) Q e σ := by
  refine AW.drop (e' := E i₀) (σ' := S i₀) ⟨fun B a w h1 h2 h3 h4 => ?_⟩ hE hS
  refine wpIn_loop_ghost (fun i a' w' => I i ∧ Rel (S i) w' ∧ FR (S i) w' n (E i) a'.tmps ∧ DF B (S i) w' a'.defers ∧ Step (S i₀) w (S i) w') μ i₀ ⟨h0, h2, h3, h4, .refl _ _⟩ ?_
  rintro i a' w' ⟨hI, r1, r2, r3, r4⟩
  refine wpIn_mono ((round i hI).out B a' w' (Nat.le_trans h1 r4.size) r1 r2 r3) ?_
  rintro ex a'' w'' ⟨e', σ', q1, q2, q3, q4, q5⟩
  cases ex with
  | normal =>
    obtain ⟨j, hj, hlt, he, hs⟩ := q1
    exact ⟨j, ⟨hj, q2.less hs, (q3.sub he).less hs, q4.less hs, (r4.trans q5).less fun _ hb => hs.none_ hb⟩, hlt⟩
  | _ => exact ⟨e', σ', q1, q2, q3, q4, r4.trans q5⟩

/-- What an environment says in one store, another says in another that owns no more. -/
def Sees (e : Env) (σ : Store) (e' : Env) (σ' : Store) : Prop := ∀ i x, look e' i = some x → ∃ y, look e i = some y ∧ ∀ w v, Rel σ w → VR σ w y v → VR σ' w x v
theorem Sees.nil (e : Env) (σ σ' : Store) : Sees e σ [] σ' := fun i x h => by simp [look] at h
theorem Sees.cons {e e' : Env} {σ σ' : Store} {i : Nat} {x y : AV} (h : look e i = some y) (hv : Frz y σ x σ') (hs : Sees e σ e' σ') : Sees e σ ((i, x) :: e') σ' := fun j z hz => by
  by_cases hj : i = j
  · subst hj; rw [look_cons_eq] at hz; injection hz with hz; subst hz; exact ⟨y, h, hv.2⟩
  · rw [look_cons_ne hj] at hz; exact hs j z hz
/-- The same value. -/
theorem Sees.keep {e e' : Env} {σ σ' : Store} {i : Nat} {x : AV} (h : look e i = some x) (hsub : SubS σ σ') (hs : Sees e σ e' σ') : Sees e σ ((i, x) :: e') σ' := Sees.cons h (.drop hsub) hs

/-- Between two statements a frame may see what it holds otherwise: rows of its own as nobody's. -/
theorem AW.see {ro : Option Nat} {n : Nat} {c : Code} {Q : Exit → Env → Store → Prop} {e e' : Env} {σ σ' : Store} (hsub : SubS σ σ') (hs : Sees e σ e' σ') (h : AW P ro n c Q e' σ') : AW P ro n c Q e σ := by
  refine ⟨fun B a w h1 h2 h3 h4 => ?_⟩
  have hfr : FR σ' w n e' a.tmps := ⟨h3.1, fun i x hx => by
    obtain ⟨y, hy, hv⟩ := hs i x hx
    exact hv w _ h2 (h3.2 i y hy)⟩
  refine wpIn_mono (h.out B a w h1 (h2.less hsub) hfr (h4.less hsub)) ?_
  rintro ex a' w' ⟨e1, σ1, q1, q2, q3, q4, q5⟩
  exact ⟨e1, σ1, q1, q2, q3, q4, q5.more fun _ hb => hsub.none_ hb⟩

/-- A variable of one's own that is written no more. -/
theorem Frz.ptr {b : Nat} {cs : List AV} {σ σ' : Store} (hσ : σ b = some (.row cs)) (h : SubS σ σ') (hb : σ' b = none) : Frz (ptrA b) σ (.iptr cs) σ' := by
  refine ⟨h, fun w v hrel hv => ?_⟩
  cases hv
  obtain ⟨c, t, fz, h1, h2, h3, h5, h4⟩ := hrel b _ hσ
  refine .iptr cs b 0 (fun i => c.getD i undefV) hb (lt_of_heap h1) (fun i hi => ?_) (fun i hi => h5 i hi) (fun i y hy => (h4 i y hy).less fun _ hx => h.none_ hx)
  rw [Nat.zero_add, cell_of_row' h1]
  have : i < c.size := by omega
  simp [Array.getD, this]

/-- Arguments may be seen otherwise. -/
theorem AInv.args {f : Fn} {first captured args args' : List AV} {σ : Store} {R : AV → Store → Prop} (h : ∀ w va, VRs σ w args va → VRs σ w args' va) (hc : AInv P f first captured args' σ R) : AInv P f first captured args σ R :=
  ⟨fun w vf vc va h0 h1 h2 h3 => hc.out w vf vc va h0 h1 h2 (h w va h3)⟩
theorem VRs.cons {σ : Store} {w : World} {a a' : AV} {ls ls' : List AV} {vs : Array Value} (h : VRs σ w (a :: ls) vs) (h1 : ∀ v, VR σ w a v → VR σ w a' v) (h2 : ∀ us, VRs σ w ls us → VRs σ w ls' us) : VRs σ w (a' :: ls') vs := by
  obtain ⟨l⟩ := vs
  cases l with
  | nil => have := h.1; simp at this
  | cons v l =>
    have ht : VRs σ w ls l.toArray := ⟨by have := h.1; simpa using this, fun i y hy => by simpa [Array.getD_eq_getD_getElem?] using h.2 (i + 1) y (by simpa using hy)⟩
    have ht2 := h2 _ ht
    refine ⟨by have := ht2.1; simpa using this, fun i y hy => ?_⟩
    cases i with
    | zero => injection hy with hy; subst hy; exact h1 _ (by simpa using h.2 0 a rfl)
    | succ i => have := ht2.2 i y (by simpa using hy); simpa [Array.getD_eq_getD_getElem?] using this
theorem VRs.nil_ {σ : Store} {w : World} {vs : Array Value} (h : VRs σ w [] vs) : VRs σ w [] vs := h
/-- Cells may be seen otherwise. -/
theorem VR.agg_see {σ : Store} {w : World} {cs cs' : List AV} {v : Value} (h : VR σ w (.agg cs) v) (hc : ∀ vs, VRs σ w cs vs → VRs σ w cs' vs) : VR σ w (.agg cs') v := by
  obtain ⟨vs, rfl, hs, h1, hv⟩ := h.agg_inv
  have := hc vs ⟨hs, hv⟩
  exact .agg cs' vs this.1 h1 this.2
theorem VR.nil_sl {σ : Store} {w : World} {sz : Nat} {v : Value} (h : VR σ w (.val (.slice none 0 0)) v) : VR σ w (.sl sz []) v := by cases h; exact .sl0 _ _ _

/-- A function's contract out of its body, step by step. -/
theorem AInv.of_aw (hT : TabOk P T) {f : FuncId} {fn : Func} {c : Code} {first captured args : List AV} {σ : Store} {R : AV → Store → Prop} (hf : P.funcs[f]? = some fn) (hb : fn.body = some c)
    (hnm : fn.name ≠ "runtime.NumGoroutine") (hlen' : Nat.ble (first.length + args.length + captured.length) fn.ntmps = true)
    (h : AW P none fn.ntmps c (retQ T fn.results.toList R) (entryE 0 (first ++ args ++ captured)) σ) : AInv P (.func f) first captured args σ R := by
  have hlen := Nat.le_of_ble_eq_true hlen'
  refine ⟨fun w vf vc va hrel h1 h2 h3 => ?_⟩
  have hrun : (invoke (.fn (.func f) vc) (vf ++ va)).run P w = .ok (.enter f (vf ++ va ++ vc)) w := by
    simp [invoke, callFunc, hf, hnm, hb]
  rw [hrun]
  show Calls P f (vf ++ va ++ vc) w _
  refine callsIn_wide.1 (callsIn_of_wp_marks (n := 0) hf hb trivial ?_ rfl)
  have hfr : FR σ w fn.ntmps (entryE 0 (first ++ args ++ captured)) (vf ++ va ++ vc ++ Array.replicate (fn.ntmps - (vf ++ va ++ vc).size) undef) := by
    have hs : (vf ++ va ++ vc).size = first.length + args.length + captured.length := by simp [h1.1, h2.1, h3.1]; omega
    refine ⟨by rw [Array.size_append, hs, Array.size_replicate]; omega, fun i x hx => ?_⟩
    obtain ⟨_, hx⟩ := look_entry _ _ _ _ hx
    simp only [Nat.sub_zero] at hx
    have hlt : i < (vf ++ va ++ vc).size := by rw [hs]; have := lt_of_get hx; simpa [Nat.add_assoc] using this
    have e1 : (vf ++ va ++ vc ++ Array.replicate (fn.ntmps - (vf ++ va ++ vc).size) undef).getD i undefV = (vf ++ va ++ vc).getD i undefV := by
      rw [Array.getD_eq_getD_getElem?, Array.getD_eq_getD_getElem?, Array.getElem?_append_left hlt]
    rw [e1]
    rw [Array.getD_eq_getD_getElem?]
    by_cases hi1 : i < first.length
    · rw [List.append_assoc, List.getElem?_append_left hi1] at hx
      have := h1.2 i x hx
      rw [Array.append_assoc, Array.getElem?_append_left (by rw [h1.1]; exact hi1), ← Array.getD_eq_getD_getElem?]; exact this
    · by_cases hi2 : i < first.length + args.length
      · rw [List.append_assoc, List.getElem?_append_right (by omega), List.getElem?_append_left (by omega)] at hx
        have := h3.2 _ x hx
        rw [Array.append_assoc, Array.getElem?_append_right (by rw [h1.1]; omega), h1.1, Array.getElem?_append_left (by rw [h3.1]; omega), ← Array.getD_eq_getD_getElem?]; exact this
      · rw [List.append_assoc, List.getElem?_append_right (by omega), List.getElem?_append_right (by omega)] at hx
        have := h2.2 _ x hx
        rw [Array.append_assoc, Array.getElem?_append_right (by rw [h1.1]; omega), h1.1, Array.getElem?_append_right (by rw [h3.1]; omega), h3.1, ← Array.getD_eq_getD_getElem?]; exact this
  have haw := h.out w.heap.size { tmps := vf ++ va ++ vc ++ Array.replicate (fn.ntmps - (vf ++ va ++ vc).size) undef, defers := [] } w (Nat.le_refl _) hrel hfr ⟨[], rfl, .nil, by simp⟩
  refine wpIn_mono haw ?_
  rintro ex a' w' ⟨e', σ', hq, hr, hf', ⟨Ds, hd1, hd2, hd3⟩, hs⟩
  cases ex with
  | normal => rw [bodyPostM, hd1]; exact leaves_marks hT Ds w' hr hf' hs hd2 hd3 hq
  | ret => rw [bodyPostM, hd1]; exact leaves_marks hT Ds w' hr hf' hs hd2 hd3 hq
  | _ => exact hq.elim


end Go.Cr
