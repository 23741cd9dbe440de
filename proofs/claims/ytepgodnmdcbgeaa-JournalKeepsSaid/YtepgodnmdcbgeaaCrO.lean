/-
The abstract layer, part 15: what an operation's reckoning hangs on: the values of its operands; which operations change nothing.
No statement of the program; no condition.
-/
import Derived.Test.YtepgodnmdcbgeaaCrN

namespace Go.Cr
open Go Go.RowKit

variable {P : Program} {T : Tab}

theorem Vl_congr {e e' : Env} : ∀ (l : List Operand), (∀ x ∈ l, V e x = V e' x) → Vl e l = Vl e' l
  | [], _ => rfl
  | x :: r, h => by
    simp only [Vl, h x List.mem_cons_self, Vl_congr r fun y hy => h y (List.mem_cons_of_mem _ hy)]

theorem Vp_congr {e e' : Env} : ∀ (l : List (Nat × Operand)), (∀ x ∈ l.map (·.2), V e x = V e' x) → Vp e l = Vp e' l
  | [], _ => rfl
  | (i, x) :: r, h => by
    simp only [Vp, h x List.mem_cons_self, Vp_congr r fun y hy => h y (List.mem_cons_of_mem _ hy)]

theorem Vo_congr {e e' : Env} (o : Option Operand) (h : ∀ x ∈ o, V e x = V e' x) : Vo e o = Vo e' o := by
  cases o with
  | none => rfl
  | some x => simp only [Vo, h x rfl]

theorem stepOp_env {o : Op} {ty : TypeId} {e e' : Env} {σ : Store} {K : AV → Store → Prop} (h : ∀ x ∈ o.operands.toList, V e x = V e' x) (hs : stepOp T P o ty e σ K) : stepOp T P o ty e' σ K := by
  have hm : o.operands.toList.map (V e) = o.operands.toList.map (V e') := List.map_congr_left h
  cases o with
  | call c =>
    have ha : Vl e c.args.toList = Vl e' c.args.toList := Vl_congr _ fun x hx => h x (by simp only [Op.operands, Call.operands, Array.toList_append, List.mem_append]; exact .inr hx)
    simp only [stepOp, callA] at hs ⊢
    rw [← ha, ← hm]
    cases hc : c.callee with
    | value f =>
      rw [hc] at hs
      have : V e f = V e' f := h f (by simp [Op.operands, Call.operands, hc])
      simp only [← this]; exact hs
    | builtin b => rw [hc] at hs; exact hs
    | invoke r n => rw [hc] at hs; exact hs
  | build t ps =>
    simp only [stepOp] at hs ⊢
    rw [← Vp_congr ps.toList (fun x hx => h x (by simpa [Op.operands] using hx))]; exact hs
  | buildSlice t n ps =>
    simp only [stepOp] at hs ⊢
    rw [← Vp_congr ps.toList (fun x hx => h x (by simpa [Op.operands] using hx))]; exact hs
  | makeFunc f x y =>
    simp only [stepOp] at hs ⊢
    rw [← Vl_congr x.toList (fun u hu => h u (by simp only [Op.operands, Array.toList_append, List.mem_append]; exact .inl hu)), ← Vl_congr y.toList (fun u hu => h u (by simp only [Op.operands, Array.toList_append, List.mem_append]; exact .inr hu))]; exact hs
  | makeMap t r =>
    cases r with
    | none => exact hs
    | some x => simp only [stepOp] at hs ⊢; rw [← hm]; exact hs
  | slice t x l hi m =>
    have hx : V e x = V e' x := h x (by simp [Op.operands])
    have hl : Vo e l = Vo e' l := Vo_congr l fun y hy => h y (by simp only [Option.mem_def] at hy; subst hy; simp [Op.operands])
    have hh : Vo e hi = Vo e' hi := Vo_congr hi fun y hy => h y (by simp only [Option.mem_def] at hy; subst hy; simp [Op.operands])
    cases m with
    | none => simp only [stepOp] at hs ⊢; rw [← hx, ← hl, ← hh]; exact hs
    | some m =>
      have hm' : V e m = V e' m := h m (by simp [Op.operands])
      cases hi with
      | none => simp only [stepOp] at hs ⊢; rw [← hm]; exact hs
      | some hi =>
        have hh' : V e hi = V e' hi := h hi (by simp [Op.operands])
        simp only [stepOp] at hs ⊢; rw [← hx, ← hl, ← hh', ← hm']; exact hs
  | alloc _ => exact hs
  | pick a b c =>
    simp only [Op.operands, List.mem_cons, List.not_mem_nil, or_false, forall_eq_or_imp, forall_eq] at h
    simp only [stepOp, h.1, h.2.1, h.2.2] at hs ⊢; exact hs
  | store _ a b | binOp _ _ a b _ | makeSlice _ a b | indexAddr _ a b | index _ a b =>
    simp only [Op.operands, List.mem_cons, List.not_mem_nil, or_false, forall_eq_or_imp, forall_eq] at h
    simp only [stepOp, h.1, h.2] at hs ⊢; exact hs
  | move x | assign x | box _ x | load _ x | nilCheck x | unOp _ _ x | convert _ _ x | makeInterface _ x | fieldAddr _ x _ | field _ x _ | extract x _ =>
    simp only [Op.operands, List.mem_cons, List.not_mem_nil, or_false, forall_eq] at h
    simp only [stepOp, h] at hs ⊢; exact hs
  | defer _ => exact hs
  | _ => simp only [stepOp] at hs ⊢; rw [← hm]; exact hs

/-! ### What changes nothing -/

/-- Operations that leave the store as it is, whatever their operands. -/
def still : Op → Bool
  | .move _ | .assign _ | .load .. | .nilCheck _ | .binOp .. | .unOp .. | .fieldAddr .. | .field .. | .indexAddr .. | .index .. | .extract .. | .slice _ _ _ _ none => true
  | .call c => match c.callee with
    | .builtin .len => match c.argTypes.toList, c.args.toList with
      | _ :: _, [_] => true
      | _, _ => false
    | .builtin .min | .builtin .max => true
    | _ => false
  | _ => false

/-- 1: the value hangs on the operands alone; 2: on the store too; 0: nothing is said. -/
def cls (e : Env) : Op → Nat
  | .move _ | .assign _ | .nilCheck _ | .fieldAddr .. | .field .. | .indexAddr .. | .index .. | .extract .. | .slice _ _ _ _ none | .unOp .. => 1
  | .load _ x => match V e x with
    | some (.iptr _) => 1
    | _ => 2
  | .binOp _ _ x y _ => match V e x, V e y with
    | some (.val (.int _ _)), some (.val (.int _ _)) => 1
    | some (.val (.string _)), some (.val (.string _)) => 1
    | _, _ => 0
  | .convert _ _ x => match V e x with
    | some (.val (.int _ _)) => 1
    | some (.sl _ _) => 1
    | _ => 0
  | .call c => match c.callee, Vl e c.args.toList, c.argTypes.toList with
    | .builtin .len, some [.sl _ _], _ :: _ => 1
    | .builtin .len, some [.arr ..], _ :: _ => 1
    | .builtin .len, some [.val (.string _)], _ :: _ => 1
    | .builtin .len, some [.val (.slice _ _ _)], _ :: _ => 1
    | .builtin .min, _, _ => 1
    | .builtin .max, _, _ => 1
    | _, _, _ => 0
  | _ => 0

/-- Of a reckoning by a value alone. -/
def OneV (F : (AV → Prop) → Prop) : Prop := ∀ K, F K → ∃ a, K a ∧ ∀ K', K' a → F K'

theorem fieldAddrA_one (s : TypeId) (x : AV) (f : Nat) : OneV (fieldAddrA T s x f) := by
  intro K h
  unfold fieldAddrA at h
  repeat' split at h
  all_goals first | exact h.elim | exact ⟨_, h, fun K' h' => by unfold fieldAddrA; simp_all⟩

theorem nilCheckA_one (x : AV) : OneV (nilCheckA x) := by
  intro K h
  unfold nilCheckA at h
  repeat' split at h
  all_goals first | exact h.elim | exact ⟨_, h, fun K' h' => h'⟩

theorem fieldA_one (s : TypeId) (x : AV) (f : Nat) : OneV (fieldA T s x f) := by
  intro K h
  unfold fieldA at h
  repeat' split at h
  all_goals first | exact h.elim | exact ⟨_, h.2, fun K' h' => by unfold fieldA; simp_all⟩ | exact ⟨_, h, fun K' h' => by unfold fieldA; simp_all⟩

theorem indexAddrA_one (t : TypeId) (x i : AV) : OneV (indexAddrA T t x i) := by
  intro K h
  unfold indexAddrA elemOfSl at h
  repeat' split at h
  all_goals first
    | exact h.elim
    | (obtain ⟨y, h1, h2, h3⟩ := h; exact ⟨_, h3, fun K' h' => by unfold indexAddrA elemOfSl; simp_all⟩)
    | (obtain ⟨h1, h2, h3⟩ := h; exact ⟨_, h3, fun K' h' => by unfold indexAddrA elemOfSl; simp_all⟩)

theorem indexA_one (t : TypeId) (x i : AV) : OneV (indexA T t x i) := by
  intro K h
  unfold indexA at h
  repeat' split at h
  all_goals first
    | exact h.elim
    | (obtain ⟨y, h1, h2, h3, h4⟩ := h; exact ⟨_, h4, fun K' h' => by unfold indexA; simp_all⟩)
    | (obtain ⟨y, h1, h2, h3⟩ := h; exact ⟨_, h3, fun K' h' => by unfold indexA; simp_all⟩)
    | (obtain ⟨h1, h2, h3, h4⟩ := h; exact ⟨_, h4, fun K' h' => by unfold indexA; simp_all⟩)

theorem unA_one (op : UnOp) (x : AV) : OneV (unA op x) := by
  intro K h
  unfold unA at h
  split at h
  case h_4 => exact h.elim
  all_goals exact ⟨_, h, fun K' h' => by unfold unA; exact h'⟩

theorem boundA_one (d : Nat) (o : Option AV) {F : Int → (AV → Prop) → Prop} (hF : ∀ i, OneV (F i)) : OneV fun K => boundA d o fun i => F i K := by
  intro K h
  unfold boundA at h
  split at h
  · obtain ⟨a, h1, h2⟩ := hF _ K h; exact ⟨a, h1, fun K' h' => h2 K' h'⟩
  · obtain ⟨a, h1, h2⟩ := hF _ K h; exact ⟨a, h1, fun K' h' => h2 K' h'⟩
  · exact h.elim

theorem OneV.and {p : Prop} {F : (AV → Prop) → Prop} (hF : OneV F) : OneV fun K => p ∧ F K := fun K ⟨hp, h⟩ => by
  obtain ⟨a, h1, h2⟩ := hF K h; exact ⟨a, h1, fun K' h' => ⟨hp, h2 K' h'⟩⟩
theorem OneV.at (a : AV) : OneV fun K => K a := fun _ h => ⟨a, h, fun _ h => h⟩
theorem OneV.ex {α : Type} {p : α → Prop} {F : α → (AV → Prop) → Prop} (hF : ∀ x, OneV (F x)) : OneV fun K => ∃ x, p x ∧ F x K := fun K ⟨x, hp, h⟩ => by
  obtain ⟨a, h1, h2⟩ := hF x K h; exact ⟨a, h1, fun K' h' => ⟨x, hp, h2 K' h'⟩⟩
theorem OneV.none : OneV fun _ => False := fun _ h => h.elim

theorem sliceA_one (t : TypeId) (x : AV) (lo hi : Option AV) : OneV (sliceA T t x lo hi) := by
  unfold sliceA
  split
  case h_2 => exact OneV.none
  split
  · split
    · split
      · exact boundA_one _ _ fun h => boundA_one _ _ fun i => .and (.and (.and (.at _)))
      · exact OneV.none
    · exact OneV.none
  · split
    · split
      · exact boundA_one _ _ fun h => boundA_one _ _ fun i => .and (.and (.and (.and (.at _))))
      · exact OneV.none
    · exact OneV.none
  · exact boundA_one _ _ fun h => boundA_one _ _ fun i => .and (.and (.and (.at _)))
  · split
    · exact boundA_one _ _ fun h => boundA_one _ _ fun i => .and (.and (.at _))
    · exact OneV.none
  · exact OneV.none

theorem binOrEq_one (op : BinOp) (t : TypeId) (a b : AV) (h : (∃ k x k' y, a = .val (.int k x) ∧ b = .val (.int k' y)) ∨ ∃ x y, a = .val (.string x) ∧ b = .val (.string y)) : OneV (binOrEq T op t a b) := by
  rcases h with ⟨k, x, k', y, rfl, rfl⟩ | ⟨x, y, rfl, rfl⟩
  · intro K h
    simp only [binOrEq] at h ⊢
    unfold binA sameK at h ⊢
    cases op <;> dsimp only at h ⊢ <;> (repeat' split at h) <;> first
      | exact h.elim
      | exact ⟨_, h, fun K' h' => h'⟩
      | exact ⟨_, h.2, fun K' h' => ⟨h.1, h'⟩⟩
      | (rename_i hk; simp only [hk]; exact ⟨_, h, fun K' h' => h'⟩)
      | (rename_i hk; simp only [hk]; exact ⟨_, h.2, fun K' h' => ⟨h.1, h'⟩⟩)
  · intro K h
    simp only [binOrEq] at h ⊢
    unfold binA at h ⊢
    cases op <;> dsimp only at h ⊢ <;> first
      | exact h.elim
      | exact ⟨_, h, fun K' h' => h'⟩
      | exact ⟨_, h.2, fun K' h' => ⟨h.1, h'⟩⟩

theorem loadA_one (t : TypeId) (x : AV) (σ : Store) (K : AV → Store → Prop) (h : loadA T t x σ K) : ∃ a, K a σ ∧ ∀ K', K' a σ → loadA T t x σ K' := by
  unfold loadA at h ⊢
  split at h
  case h_2 => exact h.elim
  split at h
  · obtain ⟨cs, h1, h2⟩ := h
    split at h2
    · exact ⟨_, h2.2, fun K' h' => ⟨cs, h1, h2.1, h'⟩⟩
    · split at h2
      · exact ⟨_, h2, fun K' h' => ⟨cs, h1, by simp_all⟩⟩
      · exact h2.elim
  · split at h
    · exact ⟨_, h.2, fun K' h' => ⟨h.1, h'⟩⟩
    · split at h
      · exact ⟨_, h, fun K' h' => by simp_all⟩
      · exact h.elim
  · exact h.elim

theorem loadA_iptr (t : TypeId) (cs : List AV) (σ : Store) (K : AV → Store → Prop) (h : loadA T t (.iptr cs) σ K) : ∃ a, K a σ ∧ ∀ σ' K', K' a σ' → loadA T t (.iptr cs) σ' K' := by
  unfold loadA at h ⊢
  split at h
  case h_2 => exact h.elim
  dsimp only at h ⊢
  split at h
  · exact ⟨_, h.2, fun σ' K' h' => ⟨h.1, h'⟩⟩
  · split at h
    · exact ⟨_, h, fun σ' K' h' => by simp_all⟩
    · exact h.elim

theorem stepOp_still {o : Op} {ty : TypeId} {e : Env} {σ : Store} {K : AV → Store → Prop} (hst : still o = true) (h : stepOp T P o ty e σ K) : stepOp T P o ty e σ fun a σ' => σ' = σ ∧ K a σ' := by
  cases o with
  | slice t x l hi m =>
    cases m with
    | none => simp only [stepOp, true_and] at h ⊢; exact h
    | some m => simp [still] at hst
  | call c =>
    cases hc : c.callee with
    | value f => simp [still, hc] at hst
    | invoke r n => simp [still, hc] at hst
    | builtin b =>
      simp only [stepOp, callA, hc] at h ⊢
      cases b <;> simp only [still, hc, Bool.false_eq_true] at hst
      · split at hst
        · rename_i h1 h2
          split at h
          · rename_i args hargs
            have : ∃ a, args = [a] := by
              rw [h2] at hargs
              simp only [Vl] at hargs
              split at hargs
              · injection hargs with hargs; exact ⟨_, hargs.symm⟩
              · cases hargs
            obtain ⟨a, rfl⟩ := this
            rw [h1] at h ⊢
            simp only [builtinA, true_and] at h ⊢; exact h
          · exact h
        · cases hst
      all_goals
        split at h
        · simp only [builtinA, true_and] at h ⊢; exact h
        · exact h
  | load t x =>
    simp only [stepOp] at h ⊢
    split at h
    · obtain ⟨a, h1, h2⟩ := loadA_one _ _ _ _ h
      exact h2 _ ⟨by trivial, h1⟩
    · exact h
  | move x | assign x =>
    simp only [stepOp] at h ⊢
    split at h
    · exact ⟨by trivial, h⟩
    · exact h
  | nilCheck x => simp only [stepOp, true_and] at h ⊢; exact h
  | binOp op t x y _ => simp only [stepOp, true_and] at h ⊢; exact h
  | unOp _ _ x => simp only [stepOp, true_and] at h ⊢; exact h
  | fieldAddr _ x _ | field _ x _ => simp only [stepOp, true_and] at h ⊢; exact h
  | indexAddr _ x i | index _ x i => simp only [stepOp, true_and] at h ⊢; exact h
  | extract x i =>
    simp only [stepOp] at h ⊢
    split at h
    · split at h
      · exact ⟨by trivial, h⟩
      · exact h
    · exact h
  | _ => simp [still] at hst

theorem lenA_one {t : TypeId} {x : AV} (hx : (∃ a b, x = .sl a b) ∨ (∃ a b c d, x = .arr a b c d) ∨ (∃ s, x = .val (.string s)) ∨ ∃ a b c, x = .val (.slice a b c)) {σ : Store} {K : AV → Prop} (h : lenA T t x σ K) :
    ∃ a, K a ∧ ∀ σ' K', K' a → lenA T t x σ' K' := by
  unfold lenA at h
  split at h
  case h_2 => exact h.elim
  rename_i ti hti
  rcases hx with ⟨a, b, rfl⟩ | ⟨a, b, c, d, rfl⟩ | ⟨s, rfl⟩ | ⟨a, b, c, rfl⟩ <;> cases hk : ti.kind <;> simp only [hk] at h <;> exact ⟨_, h, fun σ' K' h' => by simp only [lenA, hti, hk]; exact h'⟩

theorem minA_one (l : List AV) : OneV (minA l) := by
  intro K h
  unfold minA at h
  split at h
  · exact ⟨_, h, fun K' h' => h'⟩
  · exact h.elim
theorem maxA_one (l : List AV) : OneV (maxA l) := by
  intro K h
  unfold maxA at h
  split at h
  · exact ⟨_, h, fun K' h' => h'⟩
  · exact h.elim

theorem convertA_one {s d : TypeId} {x : AV} (hx : (∃ k n, x = .val (.int k n)) ∨ ∃ a b, x = .sl a b) {σ : Store} {K : AV → Store → Prop} (h : convertA T s d x σ K) : ∃ a, K a σ ∧ ∀ σ' K', K' a σ' → convertA T s d x σ' K' := by
  unfold convertA at h
  split at h
  case h_2 => exact h.elim
  rename_i si di hsi hdi
  rcases hx with ⟨k, n, rfl⟩ | ⟨a, b, rfl⟩
  · cases hk2 : di.kind <;> cases hk1 : si.kind <;> simp only [hk1, hk2] at h <;> first
      | exact h.elim
      | exact ⟨_, h, fun σ' K' h' => by simp only [convertA, hsi, hdi, hk1, hk2]; exact h'⟩
      | (split at h <;> first | exact h.elim | (rename_i h0 _ _; cases h0; done) | (simp_all; done))
  · cases hk2 : di.kind <;> cases hk1 : si.kind <;> simp only [hk1, hk2] at h
    case string.slice e =>
      split at h
      · rename_i ei sz l hei hx
        injection hx with hx1 hx2
        subst hx1 hx2
        split at h
        · rename_i hek hb
          obtain ⟨bs, h1, h2⟩ := h
          exact ⟨_, h2, fun σ' K' h' => by simp only [convertA, hsi, hdi, hk1, hk2, hei, hek, hb]; exact ⟨bs, h1, h'⟩⟩
        · exact h.elim
      · rename_i h0; cases h0
      · exact h.elim

theorem OneV.step {F : (AV → Prop) → Prop} (hF : OneV F) {σ : Store} {K : AV → Store → Prop} (h : F fun a => K a σ) : ∃ a, K a σ ∧ ∀ (σ' : Store) (K' : AV → Store → Prop), K' a σ' → F fun a => K' a σ' := by
  obtain ⟨a, h1, h2⟩ := hF _ h
  exact ⟨a, h1, fun σ' K' h' => h2 (fun a => K' a σ') h'⟩

theorem stepOp_one {o : Op} {ty : TypeId} {e : Env} {σ : Store} {K : AV → Store → Prop} (hc : cls e o = 1) (h : stepOp T P o ty e σ K) : ∃ a, K a σ ∧ ∀ σ' K', K' a σ' → stepOp T P o ty e σ' K' := by
  cases o with
  | move x | assign x =>
    simp only [stepOp] at h ⊢
    split at h
    · rename_i a ha; exact ⟨a, h, fun σ' K' h' => by simpa only [ha] using h'⟩
    · exact h.elim
  | nilCheck x =>
    simp only [stepOp] at h ⊢
    split at h
    · exact (nilCheckA_one _).step h
    · exact h.elim
  | fieldAddr s x f =>
    simp only [stepOp] at h ⊢
    split at h
    · exact (fieldAddrA_one _ _ _).step h
    · exact h.elim
  | field s x f =>
    simp only [stepOp] at h ⊢
    split at h
    · exact (fieldA_one _ _ _).step h
    · exact h.elim
  | unOp op t x =>
    simp only [stepOp] at h ⊢
    split at h
    · exact (unA_one _ _).step h
    · exact h.elim
  | indexAddr t x i =>
    simp only [stepOp] at h ⊢
    split at h
    · exact (indexAddrA_one _ _ _).step h
    · exact h.elim
  | index t x i =>
    simp only [stepOp] at h ⊢
    split at h
    · exact (indexA_one _ _ _).step h
    · exact h.elim
  | extract x i =>
    simp only [stepOp] at h ⊢
    split at h
    · rename_i vs hv
      split at h
      · rename_i a ha; exact ⟨a, h, fun σ' K' h' => by simpa only [hv, ha] using h'⟩
      · exact h.elim
    · exact h.elim
  | slice t x lo hi m =>
    cases m with
    | some m => cases hi <;> simp [cls] at hc
    | none =>
      simp only [stepOp] at h ⊢
      split at h
      · exact (sliceA_one _ _ _ _).step h
      · exact h.elim
  | load t x =>
    simp only [cls] at hc
    split at hc
    · rename_i cs hx
      simp only [stepOp, hx] at h ⊢
      exact loadA_iptr _ _ _ _ h
    · cases hc
  | binOp op t x y t2 =>
    simp only [cls] at hc
    split at hc
    · rename_i k a k' b hx hy
      simp only [stepOp, hx, hy] at h ⊢
      exact (binOrEq_one _ _ _ _ (.inl ⟨_, _, _, _, rfl, rfl⟩)).step h
    · rename_i a b hx hy
      simp only [stepOp, hx, hy] at h ⊢
      exact (binOrEq_one _ _ _ _ (.inr ⟨_, _, rfl, rfl⟩)).step h
    · cases hc
  | convert s d x =>
    simp only [cls] at hc
    split at hc
    · rename_i k n hx
      simp only [stepOp, hx] at h ⊢
      exact convertA_one (.inl ⟨_, _, rfl⟩) h
    · rename_i k n hx
      simp only [stepOp, hx] at h ⊢
      exact convertA_one (.inr ⟨_, _, rfl⟩) h
    · cases hc
  | call c =>
    simp only [cls] at hc
    simp only [stepOp, callA] at h ⊢
    split at hc
    case h_7 => cases hc
    case h_5 =>
      rename_i hcc
      simp only [hcc] at h ⊢
      split at h
      · simp only [builtinA] at h ⊢; exact (minA_one _).step h
      · exact h.elim
    case h_6 =>
      rename_i hcc
      simp only [hcc] at h ⊢
      split at h
      · simp only [builtinA] at h ⊢; exact (maxA_one _).step h
      · exact h.elim
    all_goals
      rename_i hcc ha ht
      simp only [hcc, ha, ht, builtinA] at h ⊢
      obtain ⟨y, h3, h4⟩ := lenA_one (by simp) h
      exact ⟨y, h3, fun σ' K' h' => h4 σ' (fun a => K' a σ') h'⟩
  | _ => simp [cls] at hc

theorem stepOp_two {o : Op} {ty : TypeId} {e : Env} {σ : Store} {K : AV → Store → Prop} (hc : cls e o = 2) (h : stepOp T P o ty e σ K) : ∃ a, K a σ ∧ ∀ K', K' a σ → stepOp T P o ty e σ K' := by
  cases o with
  | load t x =>
    simp only [stepOp] at h ⊢
    split at h
    · exact loadA_one _ _ _ _ h
    · exact h.elim
  | slice t x lo hi m => cases m <;> cases hi <;> simp [cls] at hc
  | binOp op t x y t2 => simp only [cls] at hc; split at hc <;> cases hc
  | convert s d x => simp only [cls] at hc; split at hc <;> cases hc
  | call c => simp only [cls] at hc; split at hc <;> cases hc
  | _ => simp [cls] at hc

end Go.Cr
