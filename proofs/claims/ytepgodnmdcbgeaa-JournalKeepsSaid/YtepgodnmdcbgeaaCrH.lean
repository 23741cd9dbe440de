/-
The abstract layer, part 8: make, literals, copy, len, conversions; calls; one operation; a region in the order of the text.
No statement of the program; no condition.
-/
import Derived.Test.YtepgodnmdcbgeaaCrG

namespace Go.Cr
open Go Go.RowKit

variable {P : Program} {T : Tab}

/-! ### Definitions -/

def repl (n : Nat) (l : List AV) : List AV := match n with
  | 0 => []
  | n + 1 => l ++ repl n l

def makeSliceA (T : Tab) (t : TypeId) (len cap : AV) (σ : Store) (K : AV → Store → Prop) : Prop :=
  match T.get t, len, cap with
  | some ti, .val (.int _ l), .val (.int _ c) =>
    match ti.kind with
    | .slice e =>
      match T.get e with
      | some ei =>
        match AV.ones (.val ei.zero) with
        | true => 0 ≤ l ∧ l ≤ c ∧ ei.bytes * c ≤ 281474976710656 ∧ c ≤ 9223372036854775807 ∧ newA (repl c.toNat (AV.cells (.val ei.zero))) (fun b => .arr b 0 l.toNat ei.size) σ K
        | false => False
      | none => False
    | _ => False
  | _, _, _ => False

/-- Parts put into a row of cells. -/
def fillA (place : Nat → Option (Nat × Nat)) (cells : List AV) : List (Nat × AV) → Option (List AV)
  | [] => some cells
  | (i, v) :: rest =>
    match place i with
    | none => none
    | some (off, size) =>
      match v.ones, Nat.beq v.cells.length size, Nat.ble (off + size) cells.length with
      | true, true, true => fillA place (putA cells off v.cells) rest
      | _, _, _ => none

def placesOf (T : Tab) : List (Nat × TypeId) → Option (List (Nat × Nat))
  | [] => some []
  | (off, t) :: r => match T.get t, placesOf T r with
    | some ti, some l => some ((off, ti.size) :: l)
    | _, _ => none

def Vp (e : Env) : List (Nat × Operand) → Option (List (Nat × AV))
  | [] => some []
  | (i, x) :: r => match V e x, Vp e r with
    | some a, some l => some ((i, a) :: l)
    | _, _ => none

def buildA (T : Tab) (t : TypeId) (parts : List (Nat × AV)) (K : AV → Prop) : Prop :=
  match T.get t with
  | some ti =>
    match AV.ones (.val ti.zero) with
    | true =>
      match ti.kind with
      | .struct fs => match placesOf T fs with
        | some pl => match fillA (nth pl) (AV.cells (.val ti.zero)) parts with
          | some cs => K (.agg cs)
          | none => False
        | none => False
      | .array _ e => match T.get e with
        | some ei => match fillA (fun i => some (i * ei.size, ei.size)) (AV.cells (.val ti.zero)) parts with
          | some cs => K (.agg cs)
          | none => False
        | none => False
      | _ => False
    | false => False
  | none => False

def buildSliceA (T : Tab) (t : TypeId) (len : Nat) (parts : List (Nat × AV)) (σ : Store) (K : AV → Store → Prop) : Prop :=
  match T.get t with
  | some ti =>
    match ti.kind with
    | .slice e => match T.get e with
      | some ei => match AV.ones (.val ei.zero), Nat.ble (len * ei.size) 16777216 with
        | true, true => match fillA (fun i => some (i * ei.size, ei.size)) (repl len (AV.cells (.val ei.zero))) parts with
          | some cs => newA cs (fun b => .arr b 0 len ei.size) σ K
          | none => False
        | _, _ => False
      | none => False
    | _ => False
  | none => False

def copyA (T : Tab) (t : TypeId) (d x : AV) (σ : Store) (K : AV → Store → Prop) : Prop :=
  match T.get t, d with
  | some ti, .arr b off len sz =>
    match ti.kind with
    | .slice e => match T.get e with
      | some ei => match Nat.beq sz ei.size with
        | true => srcA sz x σ fun news m => ∃ cs, σ b = some (.row cs) ∧ off + min m len * sz ≤ cs.length ∧
            K (.val (.int .i64 (min m len : Nat))) (σ.set b (.row (putA cs off (news.take (min m len * sz)))))
        | false => False
      | none => False
    | _ => False
  | _, _ => False

def lenA (T : Tab) (t : TypeId) (x : AV) (σ : Store) (K : AV → Prop) : Prop :=
  match T.get t with
  | some ti =>
    match ti.kind, x with
    | .string, .val (.string s) => K (.val (.int .i64 s.size))
    | .array n _, _ => K (.val (.int .i64 n))
    | .slice _, .sl _ l => K (.val (.int .i64 l.length))
    | .slice _, .arr _ _ n _ => K (.val (.int .i64 n))
    | .slice _, .val (.slice _ n _) => K (.val (.int .i64 n))
    | .map _ _, .val (.map none) => K (.val (.int .i64 0))
    | .map _ _, .val (.map (some r)) => ∃ es cl, σ r = some (.raw (.map es cl)) ∧ K (.val (.int .i64 es.size))
    | _, _ => False
  | none => False

/-- Bytes as abstract values. -/
def u8 (c : UInt8) : AV := .val (.int .u8 c.toNat)
def bys (l : List UInt8) : AV := .sl 1 (l.map u8)

def convertA (T : Tab) (s d : TypeId) (x : AV) (σ : Store) (K : AV → Store → Prop) : Prop :=
  match T.get s, T.get d with
  | some si, some di =>
    match si.kind, di.kind, x with
    | _, .int k, .val (.int _ n) => K (.val (.int k (k.wrap n))) σ
    | .string, .string, .val (.string s) => K (.val (.string s)) σ
    | .string, .slice e, .val (.string s) => match T.get e with
      | some ei => match ei.kind with
        | .int .u8 => K (bys s.data.toList) σ
        | _ => False
      | none => False
    | .slice e, .string, .val (.slice none _ _) => match T.get e with
      | some ei => match ei.kind with
        | .int .u8 => K (.val (.string .empty)) σ
        | _ => False
      | none => False
    | .slice e, .string, x => match T.get e, x with
      | some ei, .sl sz l => match ei.kind, Nat.beq sz 1 with
        | .int .u8, true => ∃ bs : List UInt8, l = bs.map u8 ∧ K (.val (.string ⟨bs.toArray⟩)) σ
        | _, _ => False
      | some ei, .arr b off len sz => match ei.kind, Nat.beq sz 1 with
        | .int .u8, true => ∃ cs, σ b = some (.row cs) ∧ ∃ bs : List UInt8, off + len ≤ cs.length ∧ (cs.drop off).take len = bs.map u8 ∧ K (.val (.string ⟨bs.toArray⟩)) σ
        | _, _ => False
      | _, _ => False
    | .slice _, .slice e, .arr b off len sz => match Nat.beq s d, T.get e with
      | true, some ei => match ei.kind, Nat.beq sz 1 with
        | .int .u8, true => ∃ cs, σ b = some (.row cs) ∧ ∃ bs : List UInt8, off + len ≤ cs.length ∧ (cs.drop off).take len = bs.map u8 ∧ K (bys bs) (σ.del b)
        | _, _ => False
      | _, _ => False
    | _, _, _ => False
  | _, _ => False

/-! ### A function value that is called -/

/-- Calling a value with these arguments, whatever else is there, comes to a result of which R holds. -/
structure AInv (P : Program) (f : Fn) (first captured args : List AV) (σ : Store) (R : AV → Store → Prop) : Prop where
  out : ∀ (w : World) (vf vc va : Array Value), Rel σ w → VRs σ w first vf → VRs σ w captured vc → VRs σ w args va → Lands P (Post σ w R) ((invoke (.fn f vc) (vf ++ va)).run P w)

theorem AInv.mono {f : Fn} {first captured args : List AV} {σ : Store} {R R' : AV → Store → Prop} (h : AInv P f first captured args σ R) (hr : ∀ a σ', R a σ' → R' a σ') : AInv P f first captured args σ R' :=
  ⟨fun w vf vc va h0 h1 h2 h3 => (h.out w vf vc va h0 h1 h2 h3).mono fun _ _ ⟨a, σ', p, q⟩ => ⟨a, σ', hr a σ' p, q⟩⟩

def ACalls (P : Program) (f : FuncId) (args : List AV) (σ : Store) (R : AV → Store → Prop) : Prop := AInv P (.func f) [] [] args σ R

/-! ### Soundness -/

theorem repl_length (n : Nat) (l : List AV) : (repl n l).length = n * l.length := by
  induction n with
  | zero => simp [repl]
  | succ n ih => simp only [repl, List.length_append, ih, Nat.add_mul]; omega

theorem repl_get {l : List AV} (hl : 0 < l.length) : ∀ (n i : Nat) (y : AV), (repl n l)[i]? = some y → l[i % l.length]? = some y
  | 0, i, y, h => by simp [repl] at h
  | n + 1, i, y, h => by
    simp only [repl] at h
    by_cases hi : i < l.length
    · rw [List.getElem?_append_left hi] at h; rw [Nat.mod_eq_of_lt hi]; exact h
    · rw [List.getElem?_append_right (by omega)] at h
      have := repl_get hl n _ y h
      rw [Nat.mod_eq_sub_mod (by omega)]; exact this

theorem made_get (z : Array Value) (n i : Nat) (hi : i < n) : (madeCells z n).getD i undefV = z[i % z.size]! := by
  simp [madeCells, Array.getD, hi]

theorem zero_row {σ : Store} {w : World} {z : Value} (hz : AV.ones (.val z) = true) {n : Nat} : ∀ i y, (repl n (AV.cells (.val z)))[i]? = some y → VR σ w y ((madeCells z.cells (n * z.cells.size)).getD i undefV) ∧ ((madeCells z.cells (n * z.cells.size)).getD i undefV).oneCell' = true := by
  intro i y hy
  have hv := VRs.vals σ w z
  have hlt := lt_of_get hy
  rw [repl_length, ← hv.1] at hlt
  have hpos : 0 < (AV.cells (.val z)).length := by
    rw [← hv.1]
    rcases Nat.eq_zero_or_pos z.cells.size with h | h
    · rw [h] at hlt; omega
    · exact h
  have hg := repl_get hpos n i y hy
  rw [← hv.1] at hg
  rw [made_get _ _ _ hlt]
  have hm : i % z.cells.size < z.cells.size := Nat.mod_lt _ (by rw [hv.1]; exact hpos)
  have e : z.cells[i % z.cells.size]! = z.cells.getD (i % z.cells.size) undefV := by simp [Array.getD, hm]
  rw [e]
  exact ⟨hv.2 _ y hg, ones_get ((VR.val (σ := σ) (w := w) z).ones hz) hm⟩

theorem makeSliceA_sound (hT : TabOk P T) {σ : Store} {w : World} {t : TypeId} {l c : AV} {vl vc : Value} {K : AV → Store → Prop} (hrel : Rel σ w) (hl : VR σ w l vl) (hc : VR σ w c vc) (h : makeSliceA T t l c σ K) :
    ∃ v w', (Instr.makeSlice t vl vc).run P w = .ok v w' ∧ Post σ w K v w' := by
  unfold makeSliceA at h
  split at h
  case h_2 => exact h.elim
  rename_i ti kl l kc c hti
  cases hl; cases hc
  split at h
  case h_2 => exact h.elim
  rename_i e he
  split at h
  case h_2 => exact h.elim
  rename_i ei hei
  split at h
  case h_2 => exact h.elim
  rename_i hz
  obtain ⟨h0, h1, h2, h3, hK⟩ := h
  obtain ⟨⟨d, hd, hk⟩, _⟩ := hT t ti hti
  rw [he] at hk
  have := tk_slice hk
  subst this
  obtain ⟨_, ⟨i, hi, hi1, hi2, hiz⟩, hzs⟩ := hT e ei hei
  have hr := run_make (P := P) w t e i ei.zero hd hi hiz kl kc l c h0 h1 (by rw [hi2]; exact h2) h3
  refine ⟨_, _, hr, ?_⟩
  rw [hi1, ← hzs]
  refine new_row hrel ?_ (fun j hj => ?_) (fun j y hy => (zero_row hz j y hy).1) hK (fun σ' => ?_)
  · rw [repl_length, size_madeCells, ← (VRs.vals σ w ei.zero).1]; exact Nat.le_refl _
  · have : j < (repl c.toNat (AV.cells (.val ei.zero))).length := hj
    exact (zero_row (σ := σ) (w := w) hz j _ (List.getElem?_eq_getElem this)).2
  · refine .arr _ _ _ _ _ _ e (0, 0) (by omega) (heap_alloc_eq w _) ?_
    rw [size_madeCells, hzs]; omega

theorem lenA_sound (hT : TabOk P T) {σ : Store} {w : World} {t ty : TypeId} {ts : Array TypeId} (ht : ts[0]? = some t) {x : AV} {vx : Value} {K : AV → Prop} (hrel : Rel σ w) (hx : VR σ w x vx) (h : lenA T t x σ K) :
    ∃ v, (Builtin.len_ ts ty #[vx]).run P w = .ok v w ∧ ∃ a, K a ∧ VR σ w a v := by
  unfold lenA at h
  split at h
  case h_2 => exact h.elim
  rename_i ti hti
  obtain ⟨⟨d, hd, hk⟩, _⟩ := hT t ti hti
  split at h
  · rename_i s hs
    rw [hs] at hk; have := tk_string hk; subst this
    cases hx
    exact ⟨_, by simp [Builtin.len_, ht, run_underlying' hd, goInt], _, h, .val _⟩
  · rename_i n e hs
    rw [hs] at hk; have := tk_array hk; subst this
    exact ⟨_, by simp [Builtin.len_, ht, run_underlying' hd, goInt], _, h, .val _⟩
  · rename_i e sz l hs
    rw [hs] at hk; have := tk_slice hk; subst this
    cases hx with
    | sl0 => exact ⟨_, by simp [Builtin.len_, ht, run_underlying' hd, goInt], _, h, .val _⟩
    | sl _ b off cap _ f hcap hsz hσ hb hc h1 hv => exact ⟨_, by simp [Builtin.len_, ht, run_underlying' hd, goInt], _, h, .val _⟩
  · rename_i e b off n sz hs
    rw [hs] at hk; have := tk_slice hk; subst this
    obtain ⟨cap, c, t', fz, rfl, _⟩ := hx.arr_inv
    exact ⟨_, by simp [Builtin.len_, ht, run_underlying' hd, goInt], _, h, .val _⟩
  · rename_i e a n c hs
    rw [hs] at hk; have := tk_slice hk; subst this
    cases hx
    exact ⟨_, by simp [Builtin.len_, ht, run_underlying' hd, goInt], _, h, .val _⟩
  · rename_i k e hs
    rw [hs] at hk; have := tk_map hk; subst this
    cases hx
    exact ⟨_, by simp [Builtin.len_, ht, run_underlying' hd, goInt], _, h, .val _⟩
  · rename_i k e r hs
    rw [hs] at hk; have := tk_map hk; subst this
    cases hx
    obtain ⟨es, cl, hσ, hK⟩ := h
    have hw := (hrel r _ hσ).1
    exact ⟨_, by simp [Builtin.len_, ht, run_underlying' hd, goInt, getObj, Sem.run, hw], _, hK, .val _⟩
  · exact h.elim

/-! ### Literals -/

/-- Cells that are what is said, each of one cell. -/
def CV (σ : Store) (w : World) (cs : List AV) (vs : Array Value) : Prop := VRs σ w cs vs ∧ ∀ u ∈ vs.toList, u.oneCell' = true

theorem foldl_put (off : Nat) : ∀ (l : List Value) (k : Nat) (c : Array Value), (l.zipIdx k).foldl (fun cs (x : Value × Nat) => cs.setIfInBounds (off + x.2) x.1) c = putCells c (off + k) l
  | [], _, _ => rfl
  | v :: r, k, c => by
    simp only [List.zipIdx_cons, List.foldl_cons, putCells]
    rw [foldl_put off r (k + 1)]; rfl

theorem put_CV {σ : Store} {w : World} {cs news : List AV} {c : Array Value} {vs : Array Value} (h : CV σ w cs c) (hv : CV σ w news vs) {k : Nat} (hk : k + news.length ≤ cs.length) : CV σ w (putA cs k news) (putCells c k vs.toList) := by
  obtain ⟨l1, l2⟩ := hv.1.toList
  refine ⟨⟨by rw [putCells_size, putA_length]; exact h.1.1, put_row (by rw [h.1.1]; exact Nat.le_refl _) h.1.2 l1 l2 hk⟩, ?_⟩
  intro u hu
  obtain ⟨i, hi, rfl⟩ := List.mem_iff_getElem.1 hu
  have hi' : i < c.size := by simpa [putCells_size] using hi
  have e : (putCells c k vs.toList).toList[i] = (putCells c k vs.toList).getD i undefV := by
    have : i < (putCells c k vs.toList).size := by rw [putCells_size]; exact hi'
    simp [Array.getD, this]
  rw [e, putCells_getD _ _ _ (by rw [l1, h.1.1]; exact hk)]
  by_cases hki : k ≤ i ∧ i < k + vs.toList.length
  · rw [if_pos hki]
    refine hv.2 _ ?_
    rw [List.getD_eq_getElem?_getD, List.getElem?_eq_getElem (by omega)]
    exact List.getElem_mem _
  · rw [if_neg hki]; exact ones_get h.2 hi'

theorem fillA_sound {σ : Store} {w : World} {place : Nat → Option (Nat × Nat)} : ∀ {parts : List (Nat × AV)} {vparts : List (Nat × Value)} {cells cs : List AV} {vcells : Array Value}, CV σ w cells vcells →
    parts.length = vparts.length → (∀ (i : Nat) p q, parts[i]? = some p → vparts[i]? = some q → p.1 = q.1 ∧ VR σ w p.2 q.2) → fillA place cells parts = some cs → ∃ vcs, Instr.fill place vcells vparts = some vcs ∧ CV σ w cs vcs
  | [], [], cells, cs, vcells, hc, _, _, h => by
    simp only [fillA, Option.some.injEq] at h
    subst h
    exact ⟨vcells, rfl, hc⟩
  | [], _ :: _, _, _, _, _, hl, _, _ => by simp at hl
  | _ :: _, [], _, _, _, _, hl, _, _ => by simp at hl
  | (i, v) :: parts, (j, u) :: vparts, cells, cs, vcells, hc, hl, hp, h => by
    obtain ⟨e1, hvu⟩ := hp 0 (i, v) (j, u) rfl rfl
    simp only at e1 hvu
    subst e1
    simp only [fillA] at h
    split at h
    · cases h
    · rename_i off size hpl
      split at h
      · rename_i ho hsz hle
        have hsz := Nat.eq_of_beq_eq_true hsz
        have hle := Nat.le_of_ble_eq_true hle
        have hv := hvu.cells (AV.top_of_ones ho)
        have hcv : CV σ w v.cells u.cells := ⟨hv, hvu.ones ho⟩
        have hput := put_CV hc hcv (k := off) (by rw [hsz]; exact hle)
        obtain ⟨vcs, h1, h2⟩ := fillA_sound hput (by simpa using hl) (fun k p q hp' hq' => hp (k + 1) p q (by simpa using hp') (by simpa using hq')) h
        refine ⟨vcs, ?_, h2⟩
        simp only [Instr.fill, hpl]
        have hne : ¬ (u.cells.size ≠ size ∨ off + u.cells.size > vcells.size) := by rw [hv.1, hc.1.1]; omega
        have hne' : (decide (u.cells.size ≠ size) || decide (off + u.cells.size > vcells.size)) = false := by
          rw [Bool.or_eq_false_iff]; exact ⟨decide_eq_false (fun e => hne (.inl e)), decide_eq_false (fun e => hne (.inr e))⟩
        rw [if_neg (by rw [hne']; simp), ← h1]
        congr 1
        have := foldl_put off u.cells.toList 0 vcells
        rw [Nat.add_zero] at this
        rw [← this, ← Array.foldl_toList, Array.toList_zipIdx]
      · cases h

theorem Vp_sound {σ : Store} {w : World} {n : Nat} {e : Env} {a : Act} (h : FR σ w n e a.tmps) : ∀ {ps : List (Nat × Operand)} {l : List (Nat × AV)}, Vp e ps = some l →
    l.length = (ps.map fun p => (p.1, a.eval p.2)).length ∧ ∀ (i : Nat) p q, l[i]? = some p → (ps.map fun p => (p.1, a.eval p.2))[i]? = some q → p.1 = q.1 ∧ VR σ w p.2 q.2
  | [], l, hl => by simp only [Vp, Option.some.injEq] at hl; subst hl; simp
  | (j, x) :: r, l, hl => by
    simp only [Vp] at hl
    split at hl
    · rename_i v l' hx hr
      injection hl with hl
      subst hl
      obtain ⟨h1, h2⟩ := Vp_sound h hr
      refine ⟨by simpa using h1, fun i p q hp hq => ?_⟩
      cases i with
      | zero =>
        simp only [List.getElem?_cons_zero, Option.some.injEq, List.map_cons] at hp hq
        subst hp hq
        exact ⟨rfl, h.V hx⟩
      | succ i => exact h2 i p q (by simpa using hp) (by simpa using hq)
    · cases hl

theorem placesOf_ok (hT : TabOk P T) : ∀ {fs : List Field} {pl : List (Nat × Nat)} (w : World), placesOf T (fs.map fun f => (f.offset, f.type)) = some pl →
    (fs.mapM (fun f : Field => do pure (f.offset, ← sizeOf f.type) : Field → Sem (Nat × Nat))).run P w = .ok pl w
  | [], pl, w, h => by simp only [List.map_nil, placesOf, Option.some.injEq] at h; subst h; rfl
  | f :: fs, pl, w, h => by
    simp only [List.map_cons, placesOf] at h
    split at h
    · rename_i ti l hti hl
      injection h with h
      subst h
      have ih := placesOf_ok hT w hl
      simp only [List.mapM_cons, Sem.run_bind, run_sizeOf' hT hti, Result.andThen_ok, Sem.run_pure, ih]
    · cases h

theorem buildA_sound (hT : TabOk P T) {σ : Store} {w : World} {t : TypeId} {parts : List (Nat × AV)} {vparts : Array (Nat × Value)} {K : AV → Prop} (hl : parts.length = vparts.toList.length)
    (hp : ∀ (i : Nat) p q, parts[i]? = some p → vparts.toList[i]? = some q → p.1 = q.1 ∧ VR σ w p.2 q.2) (h : buildA T t parts K) : ∃ v, (Instr.build t vparts).run P w = .ok v w ∧ ∃ a, K a ∧ VR σ w a v := by
  unfold buildA at h
  split at h
  case h_2 => exact h.elim
  rename_i ti hti
  split at h
  case h_2 => exact h.elim
  rename_i hz
  obtain ⟨⟨d, hd, hk⟩, _⟩ := hT t ti hti
  have hcv : CV σ w (AV.cells (.val ti.zero)) ti.zero.cells := ⟨VRs.vals σ w ti.zero, (VR.val (σ := σ) (w := w) ti.zero).ones hz⟩
  split at h
  · rename_i fs hfs
    split at h
    case h_2 => exact h.elim
    rename_i pl hpl
    split at h
    case h_2 => exact h.elim
    rename_i cs hf
    rw [hfs] at hk
    obtain ⟨fa, rfl, rfl⟩ := tk_struct hk
    obtain ⟨vcs, h1, h2⟩ := fillA_sound hcv hl hp hf
    have hpa : (fa.mapM (fun f : Field => do pure (f.offset, ← sizeOf f.type) : Field → Sem (Nat × Nat))).run P w = .ok pl.toArray w := by
      rw [Array.mapM_eq_mapM_toList]
      simp only [Sem.run_map, placesOf_ok hT w hpl, Result.andThen_ok]
    have hfill : Instr.fill (pl.toArray[·]?) ti.zero.cells vparts.toList = some vcs := by
      have : (fun i => pl.toArray[i]?) = nth pl := by funext i; rw [nth_eq]; simp
      rw [this]; exact h1
    exact ⟨_, by simp only [Instr.build, Sem.run_bind, run_zero' hT hti, Result.andThen_ok, run_underlying' hd, hpa, hfill, Sem.run_pure], _, h, .agg _ _ h2.1.1 h2.2 h2.1.2⟩
  · rename_i n e he
    split at h
    case h_2 => exact h.elim
    rename_i ei hei
    split at h
    case h_2 => exact h.elim
    rename_i cs hf
    rw [he] at hk
    have := tk_array hk
    subst this
    obtain ⟨vcs, h1, h2⟩ := fillA_sound hcv hl hp hf
    exact ⟨_, by simp only [Instr.build, Sem.run_bind, run_zero' hT hti, Result.andThen_ok, run_underlying' hd, run_sizeOf' hT hei, h1, Sem.run_pure], _, h, .agg _ _ h2.1.1 h2.2 h2.1.2⟩
  · exact h.elim

theorem fill_size {place : Nat → Option (Nat × Nat)} : ∀ (parts : List (Nat × Value)) (c d : Array Value), Instr.fill place c parts = some d → d.size = c.size
  | [], c, d, h => by simp only [Instr.fill, Option.some.injEq] at h; rw [h]
  | (i, v) :: r, c, d, h => by
    simp only [Instr.fill] at h
    split at h
    · cases h
    · split at h
      · cases h
      · rw [fill_size r _ d h, ← Array.foldl_toList, Array.toList_zipIdx]
        have := foldl_put 0 v.cells.toList 0 c
        rename_i off size _ _
        have := foldl_put off v.cells.toList 0 c
        rw [this, putCells_size]

theorem buildSliceA_sound (hT : TabOk P T) {σ : Store} {w : World} {t : TypeId} {len : Nat} {parts : List (Nat × AV)} {vparts : Array (Nat × Value)} {K : AV → Store → Prop} (hrel : Rel σ w) (hl : parts.length = vparts.toList.length)
    (hp : ∀ (i : Nat) p q, parts[i]? = some p → vparts.toList[i]? = some q → p.1 = q.1 ∧ VR σ w p.2 q.2) (h : buildSliceA T t len parts σ K) :
    ∃ v w', (Instr.buildSlice t len vparts).run P w = .ok v w' ∧ Post σ w K v w' := by
  unfold buildSliceA at h
  split at h
  case h_2 => exact h.elim
  rename_i ti hti
  split at h
  case h_2 => exact h.elim
  rename_i e he
  split at h
  case h_2 => exact h.elim
  rename_i ei hei
  split at h
  case h_2 => exact h.elim
  rename_i hz hle
  have hle := Nat.le_of_ble_eq_true hle
  split at h
  case h_2 => exact h.elim
  rename_i cs hf
  obtain ⟨⟨d, hd, hk⟩, _⟩ := hT t ti hti
  rw [he] at hk
  have := tk_slice hk
  subst this
  have hzs := (hT e ei hei).2.2
  have hcv : CV σ w (repl len (AV.cells (.val ei.zero))) (madeCells ei.zero.cells (len * ei.zero.cells.size)) := by
    refine ⟨⟨by rw [size_madeCells, repl_length, ← (VRs.vals σ w ei.zero).1], fun i y hy => (zero_row hz i y hy).1⟩, fun u hu => ?_⟩
    obtain ⟨i, hi, rfl⟩ := List.mem_iff_getElem.1 hu
    have hi' : i < (repl len (AV.cells (.val ei.zero))).length := by
      rw [repl_length, ← (VRs.vals σ w ei.zero).1]; simpa [size_madeCells] using hi
    have := (zero_row (σ := σ) (w := w) hz i _ (List.getElem?_eq_getElem hi')).2
    have hi2 : i < (madeCells ei.zero.cells (len * ei.zero.cells.size)).size := by simpa using hi
    simpa [Array.getD, hi2] using this
  obtain ⟨vcs, h1, h2⟩ := fillA_sound hcv hl hp hf
  rw [hzs] at h1
  have hn : ¬ len * ei.size > 2 ^ 24 := by omega
  have hfill : ∀ z : Array Value, (z = ei.zero.cells ∨ len * ei.size = 0) → Instr.fill (fun i => some (i * ei.size, ei.size)) ((Array.range (len * ei.size)).map (z[· % z.size]!)) vparts.toList = some vcs := by
    intro z hz
    rcases hz with rfl | h0
    · exact h1
    · rw [← h1]; congr 1; unfold madeCells; rw [h0]; simp
  have hrun : (Instr.buildSlice t len vparts).run P w = .ok (.slice (some ⟨w.heap.size, 0, none⟩) len len) (w.alloc (.cells vcs e)) := by
    simp only [Instr.buildSlice, Sem.run_bind, run_underlying' hd, Result.andThen_ok, run_sizeOf' hT hei, if_neg hn]
    by_cases h0 : len * ei.size = 0
    · simp only [if_pos h0, Sem.run_pure, Result.andThen_ok, hfill #[] (.inr h0), newRow, Sem.run_bind, run_newObj, World.alloc_eq]
    · simp only [if_neg h0, Sem.run_bind, run_zero' hT hei, Sem.run_pure, Result.andThen_ok, hfill ei.zero.cells (.inl rfl), newRow, run_newObj, World.alloc_eq]
  refine ⟨_, _, hrun, ?_⟩
  have hcl : vcs.size = len * ei.size := by
    have := fill_size vparts.toList _ _ h1
    rw [this, size_madeCells]
  refine new_row hrel (by rw [h2.1.1]; exact Nat.le_refl _) (fun i hi => ones_get h2.2 (by rw [h2.1.1]; exact hi)) h2.1.2 h (fun σ' => ?_)
  exact .arr _ _ _ _ _ _ e (0, 0) (Nat.le_refl _) (heap_alloc_eq w _) (by rw [hcl]; omega)

end Go.Cr
