/-
The abstract layer, part 10: one operation of the program, reckoned on abstract values; that is sound.
No statement of the program; no condition.
-/
import Derived.Test.YtepgodnmdcbgeaaCrI

namespace Go.Cr
open Go Go.RowKit

/-- An operation of which nothing is reckoned: to be shown by itself. vs: what is known of its operands. -/
structure AOpaque (P : Program) (o : Op) (ty : TypeId) (vs : List (Option AV)) (σ : Store) (K : AV → Store → Prop) : Prop where
  out : ∀ (ρ : Operand → Value) (w : World) (op : Oper), op.op = o → op.type = ty → Rel σ w → (∀ (i : Nat) (x : Operand) (a : AV), o.operands.toList[i]? = some x → vs[i]? = some (some a) → VR σ w a (ρ x)) →
    Lands P (Post σ w K) ((execOp ρ op).run P w)

/-- One of two, by a bool. -/
def bcase (b : Bool) (y n : Prop) : Prop := Bool.rec (motive := fun _ => Prop) n y b
theorem bcase_intro {b : Bool} {y n : Prop} (h1 : b = true → y) (h2 : b = false → n) : Bool.rec (motive := fun _ => Prop) n y b := by
  cases b
  · exact h2 rfl
  · exact h1 rfl
theorem bcase_elim {b : Bool} {y n : Prop} (h : bcase b y n) : (b = true ∧ y) ∨ (b = false ∧ n) := by
  cases b
  · exact .inr ⟨rfl, h⟩
  · exact .inl ⟨rfl, h⟩

def slice3A (T : Tab) (t : TypeId) (x : AV) (lo : Option AV) (hi mx : AV) (K : AV → Prop) : Prop :=
  match T.get t with
  | some ti =>
    match ti.kind, x, hi, mx with
    | .slice e, .sl sz l, .val (.int _ h), .val (.int _ m) =>
      match T.get e with
      | some ei => match Nat.beq sz ei.size with
        | true => boundA 0 lo fun i => 0 ≤ i ∧ i ≤ h ∧ h ≤ m ∧ m ≤ l.length ∧ K (.sl sz ((l.drop i.toNat).take (h.toNat - i.toNat)))
        | false => False
      | none => False
    | _, _, _, _ => False
  | none => False

def binOrEq (T : Tab) (op : BinOp) (t : TypeId) (a b : AV) (K : AV → Prop) : Prop :=
  match a, b with
  | .val (.int _ _), .val (.int _ _) => binA op a b K
  | .val (.string _), .val (.string _) => binA op a b K
  | _, _ => match op, T.get t with
    | .eql, some ti => eqA ti.kind a b fun r => K (.val (.bool r))
    | .neq, some ti => eqA ti.kind a b fun r => K (.val (.bool (!r)))
    | _, _ => False

def unA (op : UnOp) (a : AV) (K : AV → Prop) : Prop :=
  match op, a with
  | .not, .val (.bool b) => K (.val (.bool (!b)))
  | .neg, .val (.int k n) => K (.val (.int k (k.wrap (0 - n))))
  | .xor, .val (.int k n) => K (.val (.int k (k.wrap (BitVec.ofInt k.bits (if k.signed then -1 else k.max) ^^^ BitVec.ofInt k.bits n).toNat)))
  | _, _ => False

def minA : List AV → (AV → Prop) → Prop
  | [.val (.int k x), .val (.int _ y)], K => K (.val (.int k (if y < x then y else x)))
  | _, _ => False

def maxA : List AV → (AV → Prop) → Prop
  | [.val (.int k x), .val (.int _ y)], K => K (.val (.int k (if y > x then y else x)))
  | _, _ => False

def builtinA (T : Tab) (b : Builtin) (ts : List TypeId) (args : List AV) (σ : Store) (K : AV → Store → Prop) (other : Prop) : Prop :=
  match b, ts, args with
  | .len, t :: _, [x] => lenA T t x σ fun a => K a σ
  | .append, [t, t2], [s, x] => match srcKind T t2 with
    | true => appendA T t s x σ K
    | false => other
  | .copy, t :: _, [d, x] => copyA T t d x σ K
  | .min, _, l => minA l fun a => K a σ
  | .max, _, l => maxA l fun a => K a σ
  | _, _, _ => other

def callA (T : Tab) (P : Program) (c : Call) (ty : TypeId) (e : Env) (σ : Store) (K : AV → Store → Prop) : Prop :=
  match c.callee with
  | .value f => match V e f, Vl e c.args.toList with
    | some (.fn fv first cap), some args => AInv P fv first cap args σ K
    | _, _ => False
  | .builtin b => match Vl e c.args.toList with
    | some args => builtinA T b c.argTypes.toList args σ K (AOpaque P (.call c) ty ((Op.call c).operands.toList.map (V e)) σ K)
    | none => False
  | .invoke _ _ => AOpaque P (.call c) ty ((Op.call c).operands.toList.map (V e)) σ K

def nilCheckA (a : AV) (K : AV → Prop) : Prop :=
  match a with
  | .val (.pointer (some p)) => K (.val (.pointer (some p)))
  | .iptr cs => K (.iptr cs)
  | .fn (.func f) x y => K (.fn (.func f) x y)
  | .fn (.yield f) x y => K (.fn (.yield f) x y)
  | _ => False

def Vo (e : Env) : Option Operand → Option (Option AV)
  | none => some none
  | some x => match V e x with
    | some a => some (some a)
    | none => none

def stepOp (T : Tab) (P : Program) (o : Op) (ty : TypeId) (e : Env) (σ : Store) (K : AV → Store → Prop) : Prop :=
  match o with
  | .move x => match V e x with
    | some a => K a σ
    | none => False
  | .assign x => match V e x with
    | some a => K a σ
    | none => False
  | .pick c x y => match V e c, V e x, V e y with
    | some (.val (.bool t)), some a, some b => bcase t (K a σ) (K b σ)
    | _, _, _ => False
  | .alloc t => allocA T t σ K
  | .box _ x => match V e x with
    | some a => boxA a σ K
    | none => False
  | .build t parts => match Vp e parts.toList with
    | some l => buildA T t l fun a => K a σ
    | none => False
  | .buildSlice t len parts => match Vp e parts.toList with
    | some l => buildSliceA T t len l σ K
    | none => False
  | .load t x => match V e x with
    | some a => loadA T t a σ K
    | none => False
  | .store t x y => match V e x, V e y with
    | some a, some v => storeA T t a v σ K
    | _, _ => False
  | .nilCheck x => match V e x with
    | some a => nilCheckA a fun a => K a σ
    | none => False
  | .binOp op t x y _ => match V e x, V e y with
    | some a, some b => binOrEq T op t a b fun a => K a σ
    | _, _ => False
  | .unOp op _ x => match V e x with
    | some a => unA op a fun a => K a σ
    | none => False
  | .convert s d x => match V e x with
    | some a => convertA T s d a σ K
    | none => False
  | .makeInterface t x => match V e x, T.get t with
    | some a, some ti => match ti.kind with
      | .iface => False
      | _ => K (.ifc t a) σ
    | _, _ => False
  | .makeFunc f first cap => match Vl e first.toList, Vl e cap.toList with
    | some x, some y => K (.fn f x y) σ
    | _, _ => False
  | .makeMap _ none => ∀ b, σ b = none → K (.val (.map (some b))) (σ.set b (.raw (.map #[] 0)))
  | .makeSlice t l c => match V e l, V e c with
    | some a, some b => makeSliceA T t a b σ K
    | _, _ => False
  | .slice t x lo hi none => match V e x, Vo e lo, Vo e hi with
    | some a, some l, some h => sliceA T t a l h fun a => K a σ
    | _, _, _ => False
  | .slice t x lo (some hi) (some mx) => match V e x, Vo e lo, V e hi, V e mx with
    | some a, some l, some h, some m => slice3A T t a l h m fun a => K a σ
    | _, _, _, _ => False
  | .fieldAddr s x f => match V e x with
    | some a => fieldAddrA T s a f fun a => K a σ
    | none => False
  | .field t x f => match V e x with
    | some a => fieldA T t a f fun a => K a σ
    | none => False
  | .indexAddr t x i => match V e x, V e i with
    | some a, some b => indexAddrA T t a b fun a => K a σ
    | _, _ => False
  | .index t x i => match V e x, V e i with
    | some a, some b => indexA T t a b fun a => K a σ
    | _, _ => False
  | .extract x i => match V e x with
    | some (.tup vs) => match nth vs i with
      | some a => K a σ
      | none => False
    | _ => False
  | .call c => callA T P c ty e σ K
  | .defer _ => False
  | o => AOpaque P o ty (o.operands.toList.map (V e)) σ K

/-! ### Soundness -/

variable {P : Program} {T : Tab}

theorem part_sound (hT : TabOk P T) {σ : Store} {w : World} {t : TypeId} {ti : TI} (hti : T.get t = some ti) {cs : List AV} {vs : Array Value} {off : Nat} {K : AV → Prop} (hs : vs.size = cs.length) (h1 : ∀ u ∈ vs.toList, u.oneCell' = true)
    (hv : ∀ i y, cs[i]? = some y → VR σ w y (vs.getD i undefV))
    (h : match ti.agg with
      | true => off + ti.size ≤ cs.length ∧ K (.agg ((cs.drop off).take ti.size))
      | false => ∃ y, cs[off]? = some y ∧ K y) : ∃ v, (part t vs off).run P w = .ok v w ∧ ∃ a, K a ∧ VR σ w a v := by
  unfold part
  simp only [Sem.run_bind, run_isAgg hT hti, Result.andThen_ok]
  split at h
  · rename_i ha
    obtain ⟨hle, hK⟩ := h
    rw [ha]
    simp only [if_true, Sem.run_bind, run_sizeOf' hT hti, Result.andThen_ok, Sem.run_pure]
    refine ⟨_, rfl, _, hK, .agg _ _ (by simp; omega) (fun u hu => h1 u ?_) (fun i y hy => ?_)⟩
    · have : u ∈ (vs.toList.drop off).take ti.size := by simpa using hu
      exact List.mem_of_mem_drop (List.mem_of_mem_take this)
    · rw [List.getElem?_take] at hy
      split at hy
      · rename_i hi
        rw [List.getElem?_drop] at hy
        have := hv _ y hy
        have hlt := lt_of_get hy
        have e : (vs.extract off (off + ti.size)).getD i undefV = vs.getD (off + i) undefV := by
          rw [Array.getD_eq_getD_getElem?, Array.getD_eq_getD_getElem?, Array.getElem?_extract, if_pos (by omega)]
        rw [e]; exact this
      · cases hy
  · rename_i ha
    obtain ⟨y, hy, hK⟩ := h
    have hlt := lt_of_get hy
    have hv' := hv off y hy
    have e : vs[off]? = some (vs.getD off undefV) := by
      have : off < vs.size := by omega
      simp [Array.getD, this]
    rw [ha]
    simp only [Bool.false_eq_true, if_false, e, Sem.run_pure]
    exact ⟨_, rfl, _, hK, hv'⟩

theorem VR.agg_inv {σ : Store} {w : World} {cs : List AV} {v : Value} (h : VR σ w (.agg cs) v) : ∃ vs, v = .agg vs ∧ vs.size = cs.length ∧ (∀ u ∈ vs.toList, u.oneCell' = true) ∧ ∀ i y, cs[i]? = some y → VR σ w y (vs.getD i undefV) := by
  cases h with
  | agg _ vs hs h1 hv => exact ⟨vs, rfl, hs, h1, hv⟩

theorem fieldA_sound (hT : TabOk P T) {σ : Store} {w : World} {s : TypeId} {x : AV} {vx : Value} {f : Nat} {K : AV → Prop} (hx : VR σ w x vx) (h : fieldA T s x f K) :
    ∃ v, (Instr.field s vx f).run P w = .ok v w ∧ ∃ a, K a ∧ VR σ w a v := by
  unfold fieldA at h
  split at h
  case h_2 => exact h.elim
  rename_i ti hti
  split at h
  case h_2 => exact h.elim
  rename_i fs hfs
  split at h
  case h_2 => exact h.elim
  rename_i off ft hf
  split at h
  case h_2 => exact h.elim
  rename_i fti hfti
  obtain ⟨⟨d, hd, hk⟩, _⟩ := hT s ti hti
  rw [hfs] at hk
  obtain ⟨fa, rfl, rfl⟩ := tk_struct hk
  rw [nth_eq, List.getElem?_map] at hf
  cases hfa : fa.toList[f]? with
  | none => rw [hfa] at hf; simp at hf
  | some fl =>
    rw [hfa] at hf
    simp only [Option.map_some, Option.some.injEq, Prod.mk.injEq] at hf
    obtain ⟨rfl, rfl⟩ := hf
    have hfa' : fa[f]? = some fl := by simpa using hfa
    split at h
    · rename_i cs hag
      obtain ⟨vs, rfl, hs, h1, hv⟩ := hx.agg_inv
      obtain ⟨v, r1, r2⟩ := part_sound hT hfti (off := fl.offset) (K := K) hs h1 hv (by rw [hag]; exact h)
      exact ⟨v, by simp only [Instr.field, Sem.run_bind, run_underlying' hd, Result.andThen_ok, hfa', asAgg, Sem.run_pure, r1], r2⟩
    · rename_i cs hag
      obtain ⟨vs, rfl, hs, h1, hv⟩ := hx.agg_inv
      rw [nth_eq] at h
      cases hy : cs[fl.offset]? with
      | none => rw [hy] at h; exact h.elim
      | some y =>
        rw [hy] at h
        obtain ⟨v, r1, r2⟩ := part_sound hT hfti (off := fl.offset) (K := K) hs h1 hv (by rw [hag]; exact ⟨y, hy, h⟩)
        exact ⟨v, by simp only [Instr.field, Sem.run_bind, run_underlying' hd, Result.andThen_ok, hfa', asAgg, Sem.run_pure, r1], r2⟩
    · exact h.elim

theorem indexA_sound (hT : TabOk P T) {σ : Store} {w : World} {t : TypeId} {x i : AV} {vx vi : Value} {K : AV → Prop} (hx : VR σ w x vx) (hi : VR σ w i vi) (h : indexA T t x i K) :
    ∃ v, (Instr.index t vx vi).run P w = .ok v w ∧ ∃ a, K a ∧ VR σ w a v := by
  unfold indexA at h
  split at h
  case h_2 => exact h.elim
  rename_i ti k i hti
  cases hi
  obtain ⟨⟨d, hd, hk⟩, _⟩ := hT t ti hti
  split at h
  · rename_i s hs
    rw [hs] at hk; have := tk_string hk; subst this
    cases hx
    obtain ⟨c, h0, hc, hK⟩ := h
    have hc' : s[i.toNat]? = some c := by
      obtain ⟨hlt, e⟩ := Array.getElem?_eq_some_iff.1 hc
      have hlt' : i.toNat < s.size := hlt
      rw [getElem?_pos s i.toNat hlt']
      congr 1
    exact ⟨_, by simp only [Instr.index, asIntOf, Sem.run_bind, Sem.run_pure, Result.andThen_ok, run_underlying' hd, if_pos h0, hc'], _, hK, .val _⟩
  · rename_i n e cs hs
    rw [hs] at hk; have := tk_array hk; subst this
    obtain ⟨vs, rfl, hsz, h1, hv⟩ := hx.agg_inv
    split at h
    case h_2 => exact h.elim
    rename_i ei hei
    split at h
    · rename_i hag
      obtain ⟨h0, hn, hle, hK⟩ := h
      obtain ⟨v, r1, r2⟩ := part_sound hT hei (off := i.toNat * ei.size) (K := K) hsz h1 hv (by rw [hag]; exact ⟨hle, hK⟩)
      exact ⟨v, by simp only [Instr.index, asIntOf, Sem.run_bind, Sem.run_pure, Result.andThen_ok, run_underlying' hd, if_pos (And.intro h0 hn), run_sizeOf' hT hei, r1], r2⟩
    · rename_i hag
      obtain ⟨y, h0, hn, hy, hK⟩ := h
      obtain ⟨v, r1, r2⟩ := part_sound hT hei (off := i.toNat * ei.size) (K := K) hsz h1 hv (by rw [hag]; exact ⟨y, hy, hK⟩)
      exact ⟨v, by simp only [Instr.index, asIntOf, Sem.run_bind, Sem.run_pure, Result.andThen_ok, run_underlying' hd, if_pos (And.intro h0 hn), run_sizeOf' hT hei, r1], r2⟩
  · exact h.elim

theorem slice3A_sound (hT : TabOk P T) {σ : Store} {w : World} {t : TypeId} {x hi mx : AV} {vx vhi vmx : Value} {lo : Option AV} {vlo : Option Value} {K : AV → Prop} (hx : VR σ w x vx)
    (hlo : OptVR σ w lo vlo) (hhi : VR σ w hi vhi) (hmx : VR σ w mx vmx) (h : slice3A T t x lo hi mx K) : ∃ v, (Instr.sliceAt t vx vlo (some vhi) (some vmx)).run P w = .ok v w ∧ ∃ a, K a ∧ VR σ w a v := by
  unfold slice3A at h
  split at h
  case h_2 => exact h.elim
  rename_i ti hti
  obtain ⟨⟨d, hd, hk⟩, _⟩ := hT t ti hti
  split at h
  case h_2 => exact h.elim
  rename_i e sz l kh hh km m he
  rw [he] at hk; have := tk_slice hk; subst this
  cases hhi; cases hmx
  split at h
  case h_2 => exact h.elim
  rename_i ei hei
  split at h
  case h_2 => exact h.elim
  rename_i hsz
  have hsz := Nat.eq_of_beq_eq_true hsz
  subst hsz
  have hb : ∃ i : Int, ((vlo = none ∧ i = 0) ∨ ∃ k, vlo = some (.int k i)) ∧ 0 ≤ i ∧ i ≤ hh ∧ hh ≤ m ∧ m ≤ l.length ∧ K (.sl ei.size ((l.drop i.toNat).take (hh.toNat - i.toNat))) := by
    rcases boundA_val hlo h with ⟨e2, h⟩ | ⟨k2, i, e2, h⟩
    · exact ⟨0, .inl ⟨e2, rfl⟩, h⟩
    · exact ⟨_, .inr ⟨_, e2⟩, h⟩
  obtain ⟨i, b2, h0, h1, h2, h3, hK⟩ := hb
  have run : ∀ len cap : Nat, m ≤ cap → (Instr.sliceBounds true len cap vlo (some (.int kh hh)) (some (.int km m))).run P w = .ok (i.toNat, hh.toNat, m.toNat) w := by
    intro len cap hc
    have a1 : (0 : Int) ≤ m := by omega
    have a2 : (0 : Int) ≤ hh := by omega
    have a3 : hh ≤ (m.toNat : Int) := by omega
    have a4 : i ≤ (hh.toNat : Int) := by omega
    rcases b2 with ⟨rfl, rfl⟩ | ⟨k, rfl⟩
    · simp only [Instr.sliceBounds, Instr.sliceBound, asIntOf, Sem.run_bind, Sem.run_pure, Result.andThen_ok, Sem.run_ite, if_pos (And.intro a1 hc), if_pos (And.intro a2 a3)]; rfl
    · simp only [Instr.sliceBounds, Instr.sliceBound, asIntOf, Sem.run_bind, Sem.run_pure, Result.andThen_ok, Sem.run_ite, if_pos (And.intro a1 hc), if_pos (And.intro a2 a3), if_pos (And.intro h0 a4)]
  cases hx with
  | sl0 sz a cap =>
    simp only [List.length_nil] at h3
    have hi0 : i.toNat = 0 := by omega
    have hh0 : hh.toNat = 0 := by omega
    have hr := run 0 cap (by omega)
    rw [hi0, hh0] at hr hK
    refine ⟨_, by simp only [Instr.sliceAt, Instr.slice, Sem.run_bind, run_underlying' hd, Result.andThen_ok, hr, run_sizeOf' hT hei, Sem.run_pure]; rfl, _, hK, ?_⟩
    simp only [List.drop_nil, List.take_nil]
    exact .sl0 _ _ _
  | sl _ b off cap _ f hcap hsz hσ hb hc hone hv =>
    have hr := run l.length cap (by omega)
    refine ⟨_, by simp only [Instr.sliceAt, Instr.slice, Sem.run_bind, run_underlying' hd, Result.andThen_ok, hr, run_sizeOf' hT hei, Sem.run_pure]; rfl, _, hK, ?_⟩
    by_cases hci : m.toNat = i.toNat
    · have e0 : hh.toNat - i.toNat = 0 := by omega
      rw [if_pos hci, e0, List.take_zero]
      exact .sl0 _ _ _
    · rw [if_neg hci]
      simp only [Option.map_some, add_at]
      have hlen : ((l.drop i.toNat).take (hh.toNat - i.toNat)).length = hh.toNat - i.toNat := by simp; omega
      have hs := VR.slice hcap hsz hσ hb hc hone hv (i := i.toNat) (h := hh.toNat) (by omega) (by omega)
      generalize hq : (l.drop i.toNat).take (hh.toNat - i.toNat) = q at hs hlen
      rw [← hlen] at hs ⊢
      cases hs with
      | sl0 => exact .sl0 _ _ _
      | sl _ b' off' cap' _ f' hcap' hsz' hσ' hb' hc' hone' hv' => exact .sl q _ _ _ _ f' (by omega) hsz' hσ' hb' hc' hone' hv'

end Go.Cr
