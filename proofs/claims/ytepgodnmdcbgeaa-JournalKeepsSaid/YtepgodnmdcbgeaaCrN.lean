/-
The abstract layer, part 14: loops; what may be forgotten; lookups by hand.
No statement of the program; no condition.
-/
import Derived.Test.YtepgodnmdcbgeaaCrM

namespace Go.Cr
open Go Go.RowKit

variable {P : Program} {T : Tab}

/-! ### Forgetting -/

/-- The second store owns no more than the first. -/
def SubS (σ σ' : Store) : Prop := ∀ b o, σ' b = some o → σ b = some o

theorem SubS.refl (σ : Store) : SubS σ σ := fun _ _ h => h
theorem SubS.trans {σ σ' σ'' : Store} (h : SubS σ σ') (k : SubS σ' σ'') : SubS σ σ'' := fun b o hb => h b o (k b o hb)
theorem SubS.none_ {σ σ' : Store} (h : SubS σ σ') {b : Nat} (hb : σ b = none) : σ' b = none := by
  cases hσ : σ' b with
  | none => rfl
  | some o => rw [h b o hσ] at hb; cases hb
theorem SubS.set {σ σ' : Store} (h : SubS σ σ') {b : Nat} (hb : σ' b = none) (o : AObj) : SubS (σ.set b o) σ' := fun x o' hx => by
  have hne : x ≠ b := fun e => by subst e; rw [hb] at hx; cases hx
  rw [Store.get_set_ne σ hne]; exact h x o' hx
theorem SubS.set2 {σ σ' : Store} (h : SubS σ σ') (b : Nat) (o : AObj) : SubS (σ.set b o) (σ'.set b o) := fun x o' hx => by
  by_cases e : x = b
  · subst e; rw [Store.get_set] at hx ⊢; exact hx
  · rw [Store.get_set_ne _ e] at hx ⊢; exact h x o' hx
theorem SubS.del {σ σ' : Store} (h : SubS σ σ') {b : Nat} (hb : σ' b = none) : SubS (σ.del b) σ' := fun x o' hx => by
  have hne : x ≠ b := fun e => by subst e; rw [hb] at hx; cases hx
  simp only [Store.del, if_neg hne]; exact h x o' hx

theorem FR.less {σ σ' : Store} {w : World} {n : Nat} {e : Env} {t : Array Value} (h : FR σ w n e t) (hl : SubS σ σ') : FR σ' w n e t := h.step ((Step.refl σ w).less fun _ hb => hl.none_ hb)
theorem DF.less {B : Nat} {σ σ' : Store} {w : World} {ds : List Deferred} (h : DF B σ w ds) (hl : SubS σ σ') : DF B σ' w ds := h.step ((Step.refl σ w).less fun _ hb => hl.none_ hb)

theorem AW.drop {ro : Option Nat} {n : Nat} {c : Code} {Q : Exit → Env → Store → Prop} {e e' : Env} {σ σ' : Store} (h : AW P ro n c Q e' σ') (he : Sub e e') (hs : SubS σ σ') : AW P ro n c Q e σ := by
  refine ⟨fun B a w h1 h2 h3 h4 => ?_⟩
  refine wpIn_mono (h.out B a w h1 (h2.less hs) ((h3.sub he).less hs) (h4.less hs)) ?_
  rintro x a' w' ⟨e1, σ1, q1, q2, q3, q4, q5⟩
  exact ⟨e1, σ1, q1, q2, q3, q4, ((Step.refl σ w).less fun _ hb => hs.none_ hb).trans q5⟩

theorem Sub.refl (e : Env) : Sub e e := fun _ _ h => h
theorem Sub.nil (e : Env) : Sub e [] := fun i x h => by simp [look] at h
theorem Sub.cons {e e' : Env} {i : Nat} {x : AV} (h : look e i = some x) (hs : Sub e e') : Sub e ((i, x) :: e') := fun j y hy => by
  by_cases hj : i = j
  · subst hj; rw [look_cons_eq] at hy; injection hy with hy; subst hy; exact h
  · rw [look_cons_ne hj] at hy; exact hs j y hy

/-! ### Loops -/

theorem wpIn_loop_ghost {ι : Type} {F : Fence} {m : Nat} {c : Code} {Q : Exit → Act → World → Prop} {a : Act} {w : World} (I : ι → Act → World → Prop) (μ : ι → Nat) (i₀ : ι) (h₀ : I i₀ a w)
    (round : ∀ i a w, I i a w → c.wpIn F m P (Exit.then (fun a' w' => ∃ j, I j a' w' ∧ μ j < μ i) Q) a w) : (Code.loop c).wpIn F m P Q a w := by
  intro b k cs hro hb hr
  have key : ∀ j i a w, μ i = j → I i a w →
      ∃ e a' w', Q e a' w' ∧ ArrivesIn (Machine.fenced P F) P (lone (b.atR a (.code c :: .inLoop c :: k)) cs w) b k cs e a' w' := by
    intro j
    induction j using Nat.strongRecOn with
    | _ j ih =>
      intro i a w hn hI
      obtain ⟨e, a₁, w₁, hq, harr⟩ := round i a w hI b (.inLoop c :: k) cs hro hb hr
      cases e with
      | normal =>
        obtain ⟨i₁, hI₁, hlt⟩ := hq
        obtain ⟨e₂, a₂, w₂, hq₂, harr₂⟩ := ih (μ i₁) (hn ▸ hlt) i₁ a₁ w₁ rfl hI₁
        exact ⟨e₂, a₂, w₂, hq₂, .of_steps (StepsIn.trans harr (.one (fenced_calm hb hr rfl) stepR_inLoop)) harr₂⟩
      | exit id => exact ⟨_, a₁, w₁, hq, .pass (x := .inLoop c) rfl (fun _ _ => .inl (by simp)) harr⟩
      | goto l => exact ⟨_, a₁, w₁, hq, .pass (x := .inLoop c) rfl (fun _ _ => .inl (by simp)) harr⟩
      | ret => exact ⟨_, a₁, w₁, hq, .pass (x := .inLoop c) rfl (fun _ _ => .inl (by simp)) harr⟩
      | panic ch => exact ⟨_, a₁, w₁, hq, .pass (x := .inLoop c) rfl (fun _ _ => .inl (by simp)) harr⟩
      | outgrown => exact ⟨_, a₁, w₁, hq, .pass (x := .inLoop c) rfl (fun _ _ => .inl (by simp)) harr⟩
  obtain ⟨e, a', w', hq, harr⟩ := key _ i₀ a w rfl h₀
  exact ⟨e, a', w', hq, .of_steps (.one (fenced_calm hb hr rfl) stepR_loop) harr⟩

/-- What a round comes to: on with a smaller measure; or out. -/
def roundQ {ι : Type} (I : ι → Prop) (E : ι → Env) (S : ι → Store) (μ : ι → Nat) (i : ι) (Q : Exit → Env → Store → Prop) : Exit → Env → Store → Prop
  | .normal, e', σ' => ∃ j, I j ∧ μ j < μ i ∧ Sub e' (E j) ∧ SubS σ' (S j)
  | ex, e', σ' => Q ex e' σ'

/-- **A loop**: an index i of the rounds tells what holds at a round's head. -/
theorem AW.loop {ι : Type} (hT : TabOk P T) {ro : Option Nat} {n : Nat} {c : Code} {Q : Exit → Env → Store → Prop} {e : Env} {σ : Store} (I : ι → Prop) (E : ι → Env) (S : ι → Store) (μ : ι → Nat) (i₀ : ι) (h0 : I i₀) (hE : Sub e (E i₀)) (hS : SubS σ (S i₀))
    (round : ∀ i, I i → codeA T P ro n c (roundQ I E S μ i Q) (E i) (S i)) : AW P ro n (.loop c) Q e σ := by
  refine AW.drop (e' := E i₀) (σ' := S i₀) ⟨fun B a w h1 h2 h3 h4 => ?_⟩ hE hS
  refine wpIn_loop_ghost (fun i a' w' => I i ∧ Rel (S i) w' ∧ FR (S i) w' n (E i) a'.tmps ∧ DF B (S i) w' a'.defers ∧ Step (S i₀) w (S i) w') μ i₀ ⟨h0, h2, h3, h4, .refl _ _⟩ ?_
  rintro i a' w' ⟨hI, r1, r2, r3, r4⟩
  refine wpIn_mono ((codeA_sound hT c (round i hI)).out B a' w' (Nat.le_trans h1 r4.size) r1 r2 r3) ?_
  rintro ex a'' w'' ⟨e', σ', q1, q2, q3, q4, q5⟩
  cases ex with
  | normal =>
    obtain ⟨j, hj, hlt, he, hs⟩ := q1
    exact ⟨j, ⟨hj, q2.less hs, (q3.sub he).less hs, q4.less hs, (r4.trans q5).less fun _ hb => hs.none_ hb⟩, hlt⟩
  | _ => exact ⟨e', σ', q1, q2, q3, q4, r4.trans q5⟩

/-- From what a frame knows to a part of it, in code that is reckoned. -/
theorem codeA_drop (hT : TabOk P T) {ro : Option Nat} {n : Nat} {c : Code} {Q : Exit → Env → Store → Prop} {e e' : Env} {σ σ' : Store} (h : codeA T P ro n c Q e' σ') (he : Sub e e') (hs : SubS σ σ') : AW P ro n c Q e σ :=
  (codeA_sound hT c h).drop he hs

/-! ### Contracts -/

theorem ACalls.mono {f : FuncId} {args : List AV} {σ : Store} {R R' : AV → Store → Prop} (h : ACalls P f args σ R) (hr : ∀ a σ', R a σ' → R' a σ') : ACalls P f args σ R' := AInv.mono h hr

/-- What a caller may forget of the store behind a call. -/
theorem AInv.less {f : Fn} {first captured args : List AV} {σ : Store} {R R' : AV → Store → Prop} (h : AInv P f first captured args σ R) (hr : ∀ a σ', R a σ' → ∃ σ'', SubS σ' σ'' ∧ R' a σ'') : AInv P f first captured args σ R' :=
  ⟨fun w vf vc va h0 h1 h2 h3 => (h.out w vf vc va h0 h1 h2 h3).mono fun v w' ⟨a, σ', p, q1, q2, q3⟩ => by
    obtain ⟨σ'', s1, s2⟩ := hr a σ' p
    exact ⟨a, σ'', s2, q1.less fun _ hb => s1.none_ hb, q2.less s1, q3.less fun _ hb => s1.none_ hb⟩⟩

/-! ### Small equations -/

theorem Store.del_set (σ : Store) (b : Nat) (o : AObj) (h : σ b = none) : (σ.set b o).del b = σ := by
  funext x; simp only [Store.set, Store.del]
  split
  · rename_i e; rw [e, h]
  · rfl
theorem Store.del_none (σ : Store) (b : Nat) (h : σ b = none) : σ.del b = σ := by
  funext x; simp only [Store.del]
  split
  · rename_i e; rw [e, h]
  · rfl
theorem Store.del_set_ne (σ : Store) {b c : Nat} (o : AObj) (h : b ≠ c) : (σ.set c o).del b = (σ.del b).set c o := by
  funext x; simp only [Store.set, Store.del]
  split
  · rename_i e; subst e; rw [if_neg h]
  · rfl
theorem Store.del_self (σ : Store) (b : Nat) : σ.del b b = none := by simp [Store.del]
theorem Store.del_ne (σ : Store) {b x : Nat} (h : x ≠ b) : σ.del b x = σ x := by simp [Store.del, h]
theorem Store.fresh_ne {σ : Store} {b x : Nat} {o : AObj} (hb : σ b = none) (hx : σ x = some o) : x ≠ b := fun e => by subst e; rw [hb] at hx; cases hx
theorem Store.set_fresh {σ : Store} {b x : Nat} {o : AObj} (h : σ.set b o x = none) : x ≠ b ∧ σ x = none := ⟨((Store.set_none_iff σ b x o).1 h).1.1, ((Store.set_none_iff σ b x o).1 h).2⟩

theorem wrap64 {n : Int} (h1 : -9223372036854775808 ≤ n) (h2 : n ≤ 9223372036854775807) : IntKind.wrap .i64 n = n := by
  rw [IntKind.wrap_i64]; omega
theorem bys_length (l : List UInt8) : (l.map u8).length = l.length := List.length_map _

/-! ### Another view of the same value -/

/-- What reads as r in one store reads as r' in another, that owns no more. -/
def Frz (r : AV) (σ : Store) (r' : AV) (σ' : Store) : Prop := SubS σ σ' ∧ ∀ w v, Rel σ w → VR σ w r v → VR σ' w r' v

theorem Frz.drop {r : AV} {σ σ' : Store} (h : SubS σ σ') : Frz r σ r σ' := ⟨h, fun _ _ _ hv => hv.less fun _ hb => h.none_ hb⟩

theorem Frz.nil {n : Nat} {σ σ' : Store} (h : SubS σ σ') : Frz (.val (.slice none 0 0)) σ (.sl n []) σ' := ⟨h, fun _ _ _ hv => by cases hv; exact .sl0 _ _ _⟩

/-- An owned row is nobody's any more. -/
theorem Frz.sl {b off n sz : Nat} {cs : List AV} {l : List AV} {σ σ' : Store} (hσ : σ b = some (.row cs)) (h : SubS σ σ') (hb : σ' b = none) (hn : l.length = n) (hsz : ∀ x ∈ l, x.cells.length = sz)
    (hc : l.flatMap AV.cells = (cs.drop off).take (n * sz)) : Frz (.arr b off n sz) σ (.sl sz l) σ' := by
  refine ⟨h, fun w v hrel hv => ?_⟩
  obtain ⟨cap, c, t, fz, rfl, hcap, hw, hroom⟩ := hv.arr_inv
  obtain ⟨c', t', fz', h1, h2, h3, h5, h4⟩ := hrel b _ hσ
  rw [hw] at h1
  injection h1 with h1
  injection h1 with e1 e2 e3
  subst e1 e2 e3
  have hfl := flat_length hsz
  have hle : off + n * sz ≤ cs.length ∨ n * sz = 0 := by
    rcases Nat.eq_zero_or_pos (n * sz) with h0 | h0
    · exact .inr h0
    · left
      have := congrArg List.length hc
      rw [hfl, hn, List.length_take, List.length_drop] at this
      omega
  subst hn
  have key : ∀ i, i < l.length * sz → w.cell? ⟨b, off + i, none⟩ = some (c.getD (off + i) undefV) ∧ (c.getD (off + i) undefV).oneCell' = true := fun i hi => by
    have hlt : off + i < cs.length := by omega
    refine ⟨?_, h5 _ hlt⟩
    rw [cell_of_row' hw]
    have : off + i < c.size := by omega
    simp [Array.getD, this]
  refine .sl l b off cap sz (fun i => c.getD (off + i) undefV) hcap hsz hb (lt_of_heap hw) (fun i hi => (key i hi).1) (fun i hi => (key i hi).2) (fun i y hy => ?_)
  rw [hc, List.getElem?_take] at hy
  split at hy
  · exact (h4 _ y (by simpa using hy)).less fun _ hb => h.none_ hb
  · cases hy

theorem Frz.bys {b n : Nat} {l : List UInt8} {σ σ' : Store} (hσ : σ b = some (.row (l.map u8))) (h : SubS σ σ') (hb : σ' b = none) (hn : l.length = n) : Frz (.arr b 0 n 1) σ (Cr.bys l) σ' :=
  Frz.sl hσ h hb (by simpa using hn) (by simp [u8, AV.cells]) (by rw [u8_flat, List.drop_zero, List.take_of_length_le]; simp [hn])

/-- A result may be seen otherwise. -/
def Seen (R : AV → Store → Prop) (r : AV) (σ : Store) : Prop := ∃ r' σ', Frz r σ r' σ' ∧ R r' σ'

theorem AInv.seen {f : Fn} {first captured args : List AV} {σ : Store} {R : AV → Store → Prop} (h : AInv P f first captured args σ (Seen R)) : AInv P f first captured args σ R :=
  ⟨fun w vf vc va h0 h1 h2 h3 => (h.out w vf vc va h0 h1 h2 h3).mono fun v w' ⟨_, _, ⟨r', σ'', hz, hR⟩, q1, q2, q3⟩ => ⟨r', σ'', hR, hz.2 w' v q2 q1, q2.less hz.1, q3.less fun _ hb => hz.1.none_ hb⟩⟩

theorem Frz.tup1 {a a' : AV} {as : List AV} {σ σ' : Store} (h : Frz a σ a' σ') : Frz (.tup (a :: as)) σ (.tup (a' :: as)) σ' := by
  refine ⟨h.1, fun w v hrel hv => ?_⟩
  cases hv with
  | tup _ vs hs hv =>
    refine .tup _ _ (by simpa using hs) (fun i y hy => ?_)
    cases i with
    | zero => simp only [List.getElem?_cons_zero, Option.some.injEq] at hy; subst hy; exact h.2 w _ hrel (hv 0 a rfl)
    | succ i => exact (hv (i + 1) y (by simpa using hy)).less fun _ hb => h.1.none_ hb

theorem Frz.tup2 {a b b' : AV} {as : List AV} {σ σ' : Store} (h : Frz b σ b' σ') : Frz (.tup (a :: b :: as)) σ (.tup (a :: b' :: as)) σ' := by
  refine ⟨h.1, fun w v hrel hv => ?_⟩
  cases hv with
  | tup _ vs hs hv =>
    refine .tup _ _ (by simpa using hs) (fun i y hy => ?_)
    match i with
    | 0 => exact (hv 0 y (by simpa using hy)).less fun _ hb => h.1.none_ hb
    | 1 => simp only [List.getElem?_cons_succ, List.getElem?_cons_zero, Option.some.injEq] at hy; subst hy; exact h.2 w _ hrel (hv 1 b rfl)
    | i + 2 => exact (hv (i + 2) y (by simpa using hy)).less fun _ hb => h.1.none_ hb

theorem Frz.trans {a b c : AV} {σ σ₁ σ₂ : Store} (h : Frz a σ b σ₁) (k : Frz b σ₁ c σ₂) : Frz a σ c σ₂ :=
  ⟨h.1.trans k.1, fun w v hrel hv => k.2 w v (hrel.less h.1) (h.2 w v hrel hv)⟩

/-! ### The table against the program -/

def tabSays (P : Program) (t : TypeId) : Option TK × Option (Nat × Nat × Option Value) := ((P.underlying t).map tkOf, (P.info? t).map fun i => (i.size, i.bytes, i.zero))

theorem Tab.mem : ∀ {T : Tab} {t : Nat} {ti : TI}, T.get t = some ti → (t, ti) ∈ T
  | [], t, ti, h => by simp [Tab.get] at h
  | (j, v) :: r, t, ti, h => by
    simp only [Tab.get] at h
    split at h
    · rename_i hj
      have := Nat.eq_of_beq_eq_true hj
      subst this
      injection h with h
      subst h
      exact List.mem_cons_self
    · exact List.mem_cons_of_mem _ (Tab.mem h)

theorem TabOk.of_list (h : T.map (fun x => tabSays P x.1) = T.map fun x => (some x.2.kind, some (x.2.size, x.2.bytes, some x.2.zero))) (hz : T.all (fun x => x.2.zero.cells.size == x.2.size) = true) : TabOk P T := by
  intro t ti hti
  have hm := Tab.mem hti
  obtain ⟨k, hk, he⟩ := List.mem_iff_getElem.1 hm
  have h1 := congrArg (fun l => l[k]?) h
  simp only [List.getElem?_map, List.getElem?_eq_getElem hk, he, Option.map_some, Option.some.injEq, tabSays, Prod.mk.injEq] at h1
  obtain ⟨a1, a2⟩ := h1
  have hz' := List.all_eq_true.1 hz _ hm
  refine ⟨?_, ?_, by simpa using hz'⟩
  · cases hd : P.underlying t with
    | none => rw [hd] at a1; cases a1
    | some d => rw [hd] at a1; injection a1 with a1; exact ⟨d, rfl, a1⟩
  · cases hi : P.info? t with
    | none => rw [hi] at a2; cases a2
    | some i =>
      rw [hi] at a2
      simp only [Option.map_some, Option.some.injEq, Prod.mk.injEq] at a2
      exact ⟨i, rfl, a2.1, a2.2.1, a2.2.2⟩

end Go.Cr
