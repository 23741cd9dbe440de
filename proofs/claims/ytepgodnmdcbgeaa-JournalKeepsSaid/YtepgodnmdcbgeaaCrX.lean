/-
The abstract layer, part 24: the arguments of a claim, as the claim's reading has them, as abstract values.
No statement of the program; no condition.
-/
import Derived.Test.YtepgodnmdcbgeaaCrW
import Derived.ProofKit

namespace Go.Cr
open Go Go.RowKit

variable {P : Program} {T : Tab}

/-- The cells of a struct's fields, one behind the other. -/
def fitsF (T : Tab) (g : Nat → List AV → Prop) : List (Nat × Nat) → List AV → Prop
  | [], cs => cs = []
  | (_, t) :: r, cs => ∃ a b, cs = a ++ b ∧ g t a ∧ fitsF T g r b

/-- An element of so many cells. -/
def elemA (ei : TI) (cs : List AV) : AV := match ei.agg with
  | true => .agg cs
  | false => cs.headD .top

/-- Cells that may be what a value of a type has. -/
def fitsC (T : Tab) : Nat → Nat → List AV → Prop
  | 0, _, _ => False
  | f + 1, t, cs => match T.get t with
    | none => False
    | some ti => match ti.kind with
      | .bool => ∃ b, cs = [.val (.bool b)]
      | .int k => ∃ n, cs = [.val (.int k n)] ∧ k.min ≤ n ∧ n ≤ k.max
      | .string => ∃ s : ByteArray, cs = [.val (.string s)] ∧ s.size ≤ 9223372036854775807
      | .slice e => match T.get e with
        | some ei => ∃ l : List (List AV), (∀ x ∈ l, fitsC T f e x ∧ x.length = ei.size) ∧ l.length ≤ 9223372036854775807 ∧ cs = [.sl ei.size (l.map (elemA ei))]
        | none => False
      | .struct fs => fitsF T (fitsC T f) fs cs
      | _ => False

/-- Fields that lie one behind the other. -/
def tileT (T : Tab) : List (Nat × Nat) → Nat → Option Nat
  | [], off => some off
  | (o, t) :: r, off => match Nat.beq o off, T.get t with
    | true, some ti => tileT T r (off + ti.size)
    | _, _ => none
def okF (g : Nat → Bool) : List (Nat × Nat) → Bool
  | [] => true
  | (_, t) :: r => g t && okF g r
/-- Types of which this text speaks. -/
def okT (T : Tab) : Nat → Nat → Bool
  | 0, _ => false
  | f + 1, t => match T.get t with
    | none => false
    | some ti => match ti.kind with
      | .bool | .int _ | .string => Nat.beq ti.size 1
      | .slice e => match T.get e with
        | some ei => Nat.beq ti.size 1 && Nat.ble 1 ei.size && (ei.agg || Nat.beq ei.size 1) && okT T f e
        | none => false
      | .struct fs => (match tileT T fs 0 with
        | some n => Nat.beq n ti.size
        | none => false) && okF (okT T f) fs
      | _ => false

theorem mapM_get {α β : Type} {f : α → Option β} : ∀ {l : List α} {r : List β}, l.mapM f = some r → r.length = l.length ∧ ∀ (i : Nat) (x : α), l[i]? = some x → ∃ y, f x = some y ∧ r[i]? = some y
  | [], r, h => by
    simp at h; subst h; exact ⟨rfl, by simp⟩
  | a :: l, r, h => by
    rw [List.mapM_cons] at h
    cases ha : f a with
    | none => rw [ha] at h; cases h
    | some y =>
      rw [ha] at h
      cases hl : l.mapM f with
      | none =>
        have h' : (l.mapM f).bind (fun ys => some (y :: ys)) = some r := h
        rw [hl] at h'; cases h'
      | some ys =>
        have h' : (l.mapM f).bind (fun ys => some (y :: ys)) = some r := h
        rw [hl] at h'
        injection h' with h'
        subst h'
        obtain ⟨h1, h2⟩ := mapM_get hl
        refine ⟨by simp [h1], fun i x hi => ?_⟩
        cases i with
        | zero => simp at hi; subst hi; exact ⟨y, ha, rfl⟩
        | succ i => exact h2 i x (by simpa using hi)

theorem exists_list {α : Type} {Q : Nat → α → Prop} : ∀ (n : Nat), (∀ i, i < n → ∃ x, Q i x) → ∃ l : List α, l.length = n ∧ ∀ (i : Nat) (x : α), l[i]? = some x → Q i x
  | 0, _ => ⟨[], rfl, by simp⟩
  | n + 1, h => by
    obtain ⟨l, hl, hq⟩ := exists_list n fun i hi => h i (by omega)
    obtain ⟨x, hx⟩ := h n (by omega)
    refine ⟨l ++ [x], by simp [hl], fun i y hi => ?_⟩
    by_cases hlt : i < l.length
    · rw [List.getElem?_append_left hlt] at hi; exact hq i y hi
    · rw [List.getElem?_append_right (by omega)] at hi
      have : i - l.length = 0 := by have := lt_of_get hi; simp at this; omega
      rw [this] at hi
      simp at hi
      subst hi
      rw [show i = n by omega]; exact hx

theorem cellsOf_tab (hT : TabOk P T) {t : Nat} {ti : TI} (h : T.get t = some ti) : P.cellsOf t = ti.size := by
  obtain ⟨_, ⟨i, h1, h2, _⟩, _⟩ := hT t ti h
  simp [Program.cellsOf, h1, h2]

/-- What is known of cells that were read. -/
structure Opened (T : Tab) (f t : Nat) (w : World) (cs : List Value) (l : List AV) : Prop where
  fits : fitsC T f t l
  len : cs.length = l.length
  one : ∀ v ∈ cs, v.oneCell' = true
  vr : ∀ i y, l[i]? = some y → VR emptyS w y (cs.getD i undefV)

theorem elemA_cells {ei : TI} {x : List AV} (h : x.length = ei.size) (hok : (ei.agg || Nat.beq ei.size 1) = true) (hones : ∀ y ∈ x, y.cells = [y]) : (elemA ei x).cells = x := by
  unfold elemA
  cases ha : ei.agg with
  | true => rfl
  | false =>
    rw [ha] at hok
    simp only [Bool.false_or] at hok
    have := Nat.eq_of_beq_eq_true hok
    rw [this] at h
    match x, h with
    | [y], _ => exact hones y List.mem_cons_self

/-- Cells that fit lie each in one cell. -/
theorem fits_ones : ∀ (f t : Nat) (cs : List AV), fitsC T f t cs → ∀ y ∈ cs, y.cells = [y]
  | 0, _, _, h => h.elim
  | f + 1, t, cs, h => by
    simp only [fitsC] at h
    split at h
    · exact h.elim
    · split at h
      · obtain ⟨b, rfl⟩ := h; intro y hy; simp at hy; subst hy; rfl
      · obtain ⟨n, rfl, _⟩ := h; intro y hy; simp at hy; subst hy; rfl
      · obtain ⟨s, rfl, _⟩ := h; intro y hy; simp at hy; subst hy; rfl
      · split at h
        · obtain ⟨l, _, _, rfl⟩ := h; intro y hy; simp at hy; subst hy; rfl
        · exact h.elim
      · rename_i fs _
        have key : ∀ (fs : List (Nat × Nat)) (cs : List AV), fitsF T (fitsC T f) fs cs → ∀ y ∈ cs, y.cells = [y] := by
          intro fs
          induction fs with
          | nil => intro cs h; simp only [fitsF] at h; subst h; simp
          | cons p fs ih =>
            obtain ⟨o, t⟩ := p
            rintro cs ⟨a, b, rfl, h1, h2⟩ y hy
            rcases List.mem_append.1 hy with hy | hy
            · exact fits_ones f t a h1 y hy
            · exact ih b h2 y hy
        exact key fs cs h
      · exact h.elim

theorem spot_none {w : World} {a : Addr} {v : Value} (h : w.cell? a = some v) : a.spot = none ∧ a.block < w.heap.size := by
  unfold World.cell? at h
  split at h
  · rename_i c _ _ hb
    split at h
    · cases h
    · rename_i hs
      refine ⟨by simpa using hs, ?_⟩
      rcases Nat.lt_or_ge a.block w.heap.size with h' | h'
      · exact h'
      · rw [Array.getElem?_eq_none h'] at hb; cases hb
  · cases h

section
variable {H : Type} {enc : TypeId × Value → H} {w : World} {fuel t : Nat} {cs : List Value} {d : DataW H} {ps : List MemPlace}

theorem trod_bool (hd : P.underlying t = some .bool) (h : DataW.trod enc P w 0 (fun _ => true) true (fuel + 1) t cs = some (d, ps)) : ∃ b, cs = [.bool b] := by
  simp only [DataW.trod, hd] at h
  split at h <;> simp_all
theorem trod_int {k : IntKind} (hd : P.underlying t = some (.int k)) (h : DataW.trod enc P w 0 (fun _ => true) true (fuel + 1) t cs = some (d, ps)) : ∃ n, cs = [.int k n] ∧ k.min ≤ n ∧ n ≤ k.max := by
  simp only [DataW.trod, hd] at h
  split at h <;> simp_all [Lit.wf]
theorem trod_string (hd : P.underlying t = some .string) (h : DataW.trod enc P w 0 (fun _ => true) true (fuel + 1) t cs = some (d, ps)) : ∃ s, cs = [.string s] ∧ s.size ≤ 9223372036854775807 := by
  simp only [DataW.trod, hd] at h
  split at h <;> simp_all
  exact h.1
theorem trod_struct {fs : Array Field} (hd : P.underlying t = some (.struct fs)) (h : DataW.trod enc P w 0 (fun _ => true) true (fuel + 1) t cs = some (d, ps)) :
    cs.length = P.cellsOf t ∧ ∃ xs, fs.toList.mapM (fun f => DataW.trod enc P w 0 (fun _ => true) true fuel f.type ((cs.drop f.offset).take (P.cellsOf f.type))) = some xs := by
  simp only [DataW.trod, hd] at h
  split at h <;> simp_all
  obtain ⟨ys, hy, _⟩ := h
  exact ⟨ys, hy⟩
theorem trod_slice {e : TypeId} (hd : P.underlying t = some (.slice e)) (h : DataW.trod enc P w 0 (fun _ => true) true (fuel + 1) t cs = some (d, ps)) :
    cs = [.slice none 0 0] ∨ ∃ a len cap, cs = [.slice (some a) len cap] ∧ len ≤ cap ∧ cap ≤ 9223372036854775807 ∧
      ∃ xs, (List.range len).mapM (fun i => (w.cells? 0 (a.add (i * P.cellsOf e)) (P.cellsOf e)).bind (DataW.trod enc P w 0 (fun _ => true) true fuel e)) = some xs := by
  simp only [DataW.trod, hd] at h
  split at h <;> simp_all
  rename_i e2 a len cap _
  obtain ⟨⟨h1, h2⟩, h3⟩ := h
  cases hx : (List.range len).mapM (fun i => (w.cells? 0 (a.add (i * P.cellsOf e2)) (P.cellsOf e2)).bind (DataW.trod enc P w 0 (fun _ => true) true fuel e2)) with
  | none => rw [hx] at h3; cases h3
  | some xs => exact ⟨a, len, cap, ⟨rfl, rfl, rfl⟩, h1, h2, xs, hx⟩
end

theorem open_cells (hT : TabOk P T) {H : Type} {enc : TypeId × Value → H} {w : World} : ∀ (f t : Nat), okT T f t = true → ∀ (fuel : Nat) (cs : List Value) (d : DataW H) (ps : List MemPlace),
    DataW.trod enc P w 0 (fun _ => true) true fuel t cs = some (d, ps) → ∃ l, Opened T f t w cs l ∧ l.length = P.cellsOf t
  | 0, _, h => by cases h
  | f + 1, t, hok => by
    intro fuel cs d ps h
    cases fuel with
    | zero => cases h
    | succ fuel =>
    simp only [okT] at hok
    cases hti : T.get t with
    | none => rw [hti] at hok; cases hok
    | some ti =>
    rw [hti] at hok
    obtain ⟨⟨dd, hd, hk⟩, _⟩ := hT t ti hti
    have hcs := cellsOf_tab hT hti
    dsimp only at hok
    split at hok
    · rename_i hkind
      have hs := Nat.eq_of_beq_eq_true hok
      rw [hkind] at hk; have := tk_bool hk; subst this
      obtain ⟨b, rfl⟩ := trod_bool hd h
      exact ⟨[.val (.bool b)], ⟨by simp only [fitsC, hti, hkind]; exact ⟨b, rfl⟩, rfl, by simp [Value.oneCell'], fun i y hy => by cases i <;> simp at hy; subst hy; exact .val _⟩, by rw [hcs, hs]; rfl⟩
    · rename_i k hkind
      have hs := Nat.eq_of_beq_eq_true hok
      rw [hkind] at hk; have := tk_int hk; subst this
      obtain ⟨n, rfl, h1, h2⟩ := trod_int hd h
      exact ⟨[.val (.int k n)], ⟨by simp only [fitsC, hti, hkind]; exact ⟨n, rfl, h1, h2⟩, rfl, by simp [Value.oneCell'], fun i y hy => by cases i <;> simp at hy; subst hy; exact .val _⟩, by rw [hcs, hs]; rfl⟩
    · rename_i hkind
      have hs := Nat.eq_of_beq_eq_true hok
      rw [hkind] at hk; have := tk_string hk; subst this
      obtain ⟨s, rfl, h1⟩ := trod_string hd h
      exact ⟨[.val (.string s)], ⟨by simp only [fitsC, hti, hkind]; exact ⟨s, rfl, h1⟩, rfl, by simp [Value.oneCell'], fun i y hy => by cases i <;> simp at hy; subst hy; exact .val _⟩, by rw [hcs, hs]; rfl⟩
    · rename_i e hkind
      cases hei : T.get e with
      | none => rw [hei] at hok; cases hok
      | some ei =>
      rw [hei] at hok
      simp only [Bool.and_eq_true] at hok
      obtain ⟨⟨⟨hs, hs1⟩, hag⟩, hoe⟩ := hok
      have hs := Nat.eq_of_beq_eq_true hs
      have hs1 := Nat.le_of_ble_eq_true hs1
      rw [hkind] at hk; have := tk_slice hk; subst this
      have hce := cellsOf_tab hT hei
      rcases trod_slice hd h with rfl | ⟨a, len, cap, rfl, hlc, hcap, xs, hxs⟩
      · exact ⟨[.sl ei.size []], ⟨by simp only [fitsC, hti, hkind, hei]; exact ⟨[], by simp, by simp, rfl⟩, rfl, by simp [Value.oneCell'], fun i y hy => by cases i <;> simp at hy; subst hy; exact .sl0 _ _ _⟩, by rw [hcs, hs]; rfl⟩
      · rw [hce] at hxs
        obtain ⟨hxl, hxg⟩ := mapM_get hxs
        have helem : ∀ i, i < len → ∃ x : List AV, (fitsC T f e x ∧ x.length = ei.size) ∧ (∀ j, j < ei.size → ∃ v, w.cell? ((a.add (i * ei.size)).add j) = some v ∧ v.oneCell' = true ∧ ∀ y, x[j]? = some y → VR emptyS w y v) := by
          intro i hi
          obtain ⟨y, hy, _⟩ := hxg i i (by rw [List.getElem?_range hi])
          cases hc : w.cells? 0 (a.add (i * ei.size)) ei.size with
          | none => rw [hc] at hy; cases hy
          | some cc =>
            rw [hc] at hy
            have hy' : DataW.trod enc P w 0 (fun _ => true) true fuel e cc = some (y.1, y.2) := hy
            obtain ⟨x, ho, hl⟩ := open_cells hT f e hoe fuel cc y.1 y.2 hy'
            rw [hce] at hl
            unfold World.cells? at hc
            rw [if_pos (Nat.zero_le _)] at hc
            obtain ⟨hcl, hcg⟩ := mapM_get hc
            refine ⟨x, ⟨ho.fits, hl⟩, fun j hj => ?_⟩
            obtain ⟨v, hv, hvr⟩ := hcg j j (by rw [List.getElem?_range hj])
            refine ⟨v, hv, ho.one v (List.mem_of_getElem? hvr), fun z hz => ?_⟩
            have := ho.vr j z hz
            rwa [List.getD_eq_getElem?_getD, hvr] at this
        obtain ⟨l, hll, hlq⟩ := exists_list len helem
        refine ⟨[.sl ei.size (l.map (elemA ei))], ⟨?_, rfl, by simp [Value.oneCell'], fun i y hy => ?_⟩, by rw [hcs, hs]; rfl⟩
        · simp only [fitsC, hti, hkind, hei]
          refine ⟨l, fun x hx => ?_, by omega, rfl⟩
          obtain ⟨i, hi, rfl⟩ := List.mem_iff_getElem.1 hx
          exact (hlq i _ (List.getElem?_eq_getElem hi)).1
        · cases i with
          | succ i => simp at hy
          | zero =>
            simp only [List.getElem?_cons_zero, Option.some.injEq] at hy
            subst hy
            show VR emptyS w _ (.slice (some a) len cap)
            rcases Nat.eq_zero_or_pos len with h0 | h0
            · have : l = [] := List.eq_nil_of_length_eq_zero (by omega)
              subst this h0
              exact .sl0 _ _ _
            · have hlen2 : (l.map (elemA ei)).length = len := by rw [List.length_map]; exact hll
              obtain ⟨v0, hv0, _⟩ := (hlq 0 l[0] (List.getElem?_eq_getElem (by omega))).2 0 hs1
              have ha0 : (a.add (0 * ei.size)).add 0 = a := by simp [Addr.add]
              rw [ha0] at hv0
              obtain ⟨hsp, hbl⟩ := spot_none hv0
              obtain ⟨b, off, sp⟩ := a
              dsimp only at hsp hbl
              subst hsp
              have hadd : ∀ i j, ((⟨b, off, none⟩ : Addr).add (i * ei.size)).add j = ⟨b, off + (i * ei.size + j), none⟩ := fun i j => by
                unfold Addr.add
                by_cases h1 : i * ei.size = 0 <;> by_cases h2 : j = 0 <;> simp [h1, h2, Nat.add_assoc]
              have hsz : ∀ x ∈ l.map (elemA ei), x.cells.length = ei.size := fun x hx => by
                obtain ⟨y, hy, rfl⟩ := List.mem_map.1 hx
                obtain ⟨i, hi, rfl⟩ := List.mem_iff_getElem.1 hy
                have := (hlq i _ (List.getElem?_eq_getElem hi)).1
                rw [elemA_cells this.2 hag (fits_ones f e _ this.1)]; exact this.2
              have hat : ∀ k, k < len * ei.size → ∃ v, w.cell? ⟨b, off + k, none⟩ = some v ∧ v.oneCell' = true ∧ ∀ y, ((l.map (elemA ei)).flatMap AV.cells)[k]? = some y → VR emptyS w y v := by
                intro k hk
                have hi : k / ei.size < len := Nat.div_lt_of_lt_mul (by rw [Nat.mul_comm]; exact hk)
                have hj : k % ei.size < ei.size := Nat.mod_lt _ hs1
                have hkk : k / ei.size * ei.size + k % ei.size = k := by rw [Nat.mul_comm]; exact Nat.div_add_mod k ei.size
                have hil : k / ei.size < l.length := by omega
                have hq := hlq _ _ (List.getElem?_eq_getElem hil)
                obtain ⟨v, hv1, hv2, hv3⟩ := hq.2 _ hj
                rw [hadd, hkk] at hv1
                refine ⟨v, hv1, hv2, fun y hy => ?_⟩
                have hxc := elemA_cells hq.1.2 hag (fits_ones f e _ hq.1.1)
                have hjl : k % ei.size < l[k / ei.size].length := by rw [hq.1.2]; exact hj
                have hg := flat_get hsz (i := k / ei.size) (j := k % ei.size) (x := elemA ei l[k / ei.size]) (y := l[k / ei.size][k % ei.size]) (by simp [hil]) (by rw [hxc]; exact List.getElem?_eq_getElem hjl)
                rw [hkk, hy] at hg
                injection hg with hg
                rw [hg]
                exact hv3 _ (List.getElem?_eq_getElem hjl)
              have := VR.sl (σ := emptyS) (w := w) (l.map (elemA ei)) b off cap ei.size (fun k => (w.cell? ⟨b, off + k, none⟩).getD undefV) (by rw [hlen2]; exact hlc) hsz rfl hbl (fun k hk => by
                  obtain ⟨v, hv, _⟩ := hat k (by rw [← hlen2]; exact hk); rw [hv]; rfl) (fun k hk => by
                  obtain ⟨v, hv, h1, _⟩ := hat k (by rw [← hlen2]; exact hk); rw [hv]; exact h1) (fun k y hy => by
                  obtain ⟨v, hv, _, h2⟩ := hat k (by have := lt_of_get hy; rw [flat_length hsz, hlen2] at this; exact this)
                  rw [hv]; exact h2 y hy)
              rw [hlen2] at this
              exact this
    · rename_i fs hkind
      simp only [Bool.and_eq_true] at hok
      obtain ⟨htile, hof⟩ := hok
      rw [hkind] at hk
      obtain ⟨fa, rfl, hfs⟩ := tk_struct hk
      obtain ⟨hlen, xs, hxs⟩ := trod_struct hd h
      rw [hcs] at hlen
      have key : ∀ (fl : List Field) (off : Nat) (n : Nat), tileT T (fl.map fun f => (f.offset, f.type)) off = some n → okF (okT T f) (fl.map fun f => (f.offset, f.type)) = true → n ≤ cs.length →
          (∃ ys, fl.mapM (fun f => DataW.trod enc P w 0 (fun _ => true) true fuel f.type ((cs.drop f.offset).take (P.cellsOf f.type))) = some ys) →
          off ≤ n ∧ ∃ l, fitsF T (fitsC T f) (fl.map fun f => (f.offset, f.type)) l ∧ l.length = n - off ∧ (∀ i v, i < n - off → cs[off + i]? = some v → v.oneCell' = true) ∧ ∀ i y, l[i]? = some y → VR emptyS w y (cs.getD (off + i) undefV) := by
        intro fl
        induction fl with
        | nil =>
          intro off n h1 _ _ _
          simp only [List.map_nil, tileT, Option.some.injEq] at h1
          subst h1
          exact ⟨Nat.le_refl _, [], rfl, by simp, by intro i v hi; omega, by simp⟩
        | cons g fl ih =>
          intro off n h1 h2 h3 ⟨ys, hys⟩
          simp only [List.map_cons, tileT] at h1
          split at h1
          case h_2 => cases h1
          rename_i tg hbo htg
          have hbo := Nat.eq_of_beq_eq_true hbo
          simp only [List.map_cons, okF, Bool.and_eq_true] at h2
          have hcg := cellsOf_tab hT htg
          obtain ⟨hyl, hyg⟩ := mapM_get hys
          obtain ⟨y, hy, _⟩ := hyg 0 g rfl
          rw [hcg, hbo] at hy
          have hrest : ∃ zs, fl.mapM (fun f => DataW.trod enc P w 0 (fun _ => true) true fuel f.type ((cs.drop f.offset).take (P.cellsOf f.type))) = some zs := by
            rw [List.mapM_cons] at hys
            cases hz : fl.mapM (fun f => DataW.trod enc P w 0 (fun _ => true) true fuel f.type ((cs.drop f.offset).take (P.cellsOf f.type))) with
            | some zs => exact ⟨zs, rfl⟩
            | none =>
              rw [hz] at hys
              cases hg : DataW.trod enc P w 0 (fun _ => true) true fuel g.type ((cs.drop g.offset).take (P.cellsOf g.type)) with
              | none => rw [hg] at hys; cases hys
              | some q => rw [hg] at hys; cases hys
          obtain ⟨i1, l2, i2, i3, i4, i5⟩ := ih (off + tg.size) n h1 h2.2 h3 hrest
          obtain ⟨l1, ho, hl1⟩ := open_cells hT f g.type h2.1 fuel _ y.1 y.2 hy
          rw [hcg] at hl1
          have hcl := ho.len
          refine ⟨by omega, l1 ++ l2, ⟨l1, l2, rfl, ho.fits, i2⟩, by rw [List.length_append]; omega, fun i v hi hv => ?_, fun i y hy => ?_⟩
          · by_cases hlt : i < tg.size
            · refine ho.one v (List.mem_of_getElem? (i := i) ?_)
              rw [List.getElem?_take, if_pos hlt, List.getElem?_drop]; exact hv
            · exact i4 (i - tg.size) v (by omega) (by rw [show off + tg.size + (i - tg.size) = off + i by omega]; exact hv)
          · by_cases hlt : i < tg.size
            · rw [List.getElem?_append_left (by omega)] at hy
              have := ho.vr i y hy
              rw [List.getD_eq_getElem?_getD, List.getElem?_take, if_pos hlt, List.getElem?_drop, ← List.getD_eq_getElem?_getD] at this
              exact this
            · rw [List.getElem?_append_right (by omega)] at hy
              have := i5 (i - l1.length) y hy
              rw [show off + tg.size + (i - l1.length) = off + i by omega] at this
              exact this
      cases htl : tileT T fs 0 with
      | none => rw [htl] at htile; cases htile
      | some n =>
      rw [htl] at htile
      have hn := Nat.eq_of_beq_eq_true htile
      rw [hfs] at htl hof
      obtain ⟨_, l, k1, k2, k3, k4⟩ := key fa.toList 0 n htl hof (by omega) ⟨xs, hxs⟩
      refine ⟨l, ⟨?_, by omega, fun v hv => ?_, fun i y hy => ?_⟩, by rw [hcs]; omega⟩
      · simp only [fitsC, hti, hkind]
        rw [hfs]; exact k1
      · obtain ⟨i, hi, rfl⟩ := List.mem_iff_getElem.1 hv
        exact k3 i _ (by omega) (by rw [Nat.zero_add]; exact List.getElem?_eq_getElem hi)
      · have := k4 i y hy
        rwa [Nat.zero_add] at this
    · cases hok

end Go.Cr
