/-
The abstract layer, part 1: abstract values, the store of owned blocks, what they mean in a world of the model, and how a step keeps it.
No statement of the program; no condition.
-/
import Derived.Below
import Derived.Laws.World
import Derived.Laws.Sem
import Derived.Laws.Cells

namespace Go.Cr
open Go Go.RowKit

/-- Abstract values. 'val': just this value. 'sl': a slice that reads as this list, each element of so many cells (its memory is nobody's to write). 'arr': a slice of an owned block: its number, the offset, the length, an element's cells. 'iptr': a pointer to cells that are nobody's to write. -/
inductive AV where
  | top
  | val (v : Value)
  | sl (sz : Nat) (l : List AV)
  | arr (b off len sz : Nat)
  | iptr (cs : List AV)
  | agg (cs : List AV)
  | tup (vs : List AV)
  | fn (f : Fn) (first captured : List AV)
  | ifc (t : TypeId) (v : AV)

/-- What an owned block is known to hold: the first cells of a row; or just this object. -/
inductive AObj where
  | row (cs : List AV)
  | raw (o : Obj)
  | loop (r : Loop) (e : List (Nat × AV))

def Store : Type := Nat → Option AObj

def emptyS : Store := fun _ => Option.none
def Store.set (σ : Store) (b : Nat) (o : AObj) : Store := fun x => if x = b then some o else σ x
def Store.del (σ : Store) (b : Nat) : Store := fun x => if x = b then Option.none else σ x

/-- The cells of an abstract value. -/
def AV.cells : AV → List AV
  | .agg cs => cs
  | .val (.agg cs) => cs.toList.map .val
  | v => [v]

/-- Do its cells each lie in one cell? -/
def AV.ones : AV → Bool
  | .val (.agg cs) => cs.toList.all Value.oneCell'
  | .val v => v.oneCell'
  | .sl .. | .arr .. | .iptr _ | .fn .. | .ifc .. | .agg _ => true
  | _ => false

def undefV : Value := .tuple #[]

/-- What an abstract value says of a value, in a world in which the blocks of the store are owned. -/
inductive VR (σ : Store) (w : World) : AV → Value → Prop
  | top (v : Value) : VR σ w .top v
  | val (v : Value) : VR σ w (.val v) v
  | sl0 (sz : Nat) (a : Option Addr) (cap : Nat) : VR σ w (.sl sz []) (.slice a 0 cap)
  | sl (l : List AV) (b off cap sz : Nat) (f : Nat → Value) (hcap : l.length ≤ cap) (hsz : ∀ x ∈ l, x.cells.length = sz) (hσ : σ b = Option.none) (hb : b < w.heap.size)
      (hc : ∀ i, i < l.length * sz → w.cell? ⟨b, off + i, Option.none⟩ = some (f i)) (h1 : ∀ i, i < l.length * sz → (f i).oneCell' = true)
      (hv : ∀ i y, (l.flatMap AV.cells)[i]? = some y → VR σ w y (f i)) :
      VR σ w (.sl sz l) (.slice (some ⟨b, off, Option.none⟩) l.length cap)
  | arr (b off len sz cap : Nat) (c : Array Value) (t : TypeId) (fz : Nat × Nat) (hcap : len ≤ cap) (hb : w.heap[b]? = some (.cells c t fz)) (hroom : off + cap * sz ≤ c.size) :
      VR σ w (.arr b off len sz) (.slice (some ⟨b, off, Option.none⟩) len cap)
  | iptr (cs : List AV) (b off : Nat) (f : Nat → Value) (hσ : σ b = Option.none) (hb : b < w.heap.size)
      (hc : ∀ i, i < cs.length → w.cell? ⟨b, off + i, Option.none⟩ = some (f i)) (h1 : ∀ i, i < cs.length → (f i).oneCell' = true) (hv : ∀ i y, cs[i]? = some y → VR σ w y (f i)) :
      VR σ w (.iptr cs) (.pointer (some ⟨b, off, Option.none⟩))
  | agg (cs : List AV) (vs : Array Value) (hs : vs.size = cs.length) (h1 : ∀ u ∈ vs.toList, u.oneCell' = true) (hv : ∀ i y, cs[i]? = some y → VR σ w y (vs.getD i undefV)) : VR σ w (.agg cs) (.agg vs)
  | tup (cs : List AV) (vs : Array Value) (hs : vs.size = cs.length) (hv : ∀ i y, cs[i]? = some y → VR σ w y (vs.getD i undefV)) : VR σ w (.tup cs) (.tuple vs)
  | fn (f : Fn) (fs cs : List AV) (vf vc : Array Value) (hf : vf.size = fs.length) (hc : vc.size = cs.length) (hvf : ∀ i y, fs[i]? = some y → VR σ w y (vf.getD i undefV))
      (hvc : ∀ i y, cs[i]? = some y → VR σ w y (vc.getD i undefV)) : VR σ w (.fn f fs cs) (.func f vf vc)
  | ifc (t : TypeId) (a : AV) (v : Value) (h : VR σ w a v) : VR σ w (.ifc t a) (.iface t v)

/-- Lists of values. -/
def VRs (σ : Store) (w : World) (as : List AV) (vs : Array Value) : Prop := vs.size = as.length ∧ ∀ i y, as[i]? = some y → VR σ w y (vs.getD i undefV)

abbrev Env := List (Nat × AV)

def look : Env → Nat → Option AV
  | [], _ => Option.none
  | (j, v) :: e, i => match Nat.beq j i with
    | true => some v
    | false => look e i

/-- What an owned block holds. -/
def ORel (σ : Store) (w : World) (b : Nat) : AObj → Prop
  | .row cs => ∃ c t fz, w.heap[b]? = some (.cells c t fz) ∧ cs.length ≤ c.size ∧ (∀ i, i < c.size + 1 → ¬ (fz.1 ≤ i ∧ i < fz.2)) ∧ (∀ i, i < cs.length → (c.getD i undefV).oneCell' = true) ∧ ∀ i y, cs[i]? = some y → VR σ w y (c.getD i undefV)
  | .raw o => w.heap[b]? = some o ∧ ∀ c t fz, o ≠ .cells c t fz
  | .loop r e => w.heap[b]? = some (.loop r) ∧ ∀ i x, look e i = some x → VR σ w x (r.tmps.getD i undefV)

def Rel (σ : Store) (w : World) : Prop := ∀ b o, σ b = some o → ORel σ w b o

/-- A step: what was nobody's to write stays so and stays as it was; no row has another length. -/
structure Step (σ : Store) (w : World) (σ' : Store) (w' : World) : Prop where
  os : w'.os = w.os
  tape : w'.tape = w.tape
  output : w'.output = w.output
  size : w.heap.size ≤ w'.heap.size
  keep : ∀ b, b < w.heap.size → σ b = Option.none → σ' b = Option.none ∧ w'.heap[b]? = w.heap[b]?
  shape : ∀ (b : Nat) (c : Array Value) (t : TypeId) (fz : Nat × Nat), w.heap[b]? = some (.cells c t fz) → ∃ (c' : Array Value) (fz' : Nat × Nat), w'.heap[b]? = some (.cells c' t fz') ∧ c'.size = c.size

theorem Step.refl (σ : Store) (w : World) : Step σ w σ w := ⟨rfl, rfl, rfl, Nat.le_refl _, fun _ _ h => ⟨h, rfl⟩, fun _ c _ fz h => ⟨c, fz, h, rfl⟩⟩

theorem Step.trans {σ σ₁ σ₂ : Store} {w w₁ w₂ : World} (h : Step σ w σ₁ w₁) (k : Step σ₁ w₁ σ₂ w₂) : Step σ w σ₂ w₂ where
  os := k.os.trans h.os
  tape := k.tape.trans h.tape
  output := k.output.trans h.output
  size := Nat.le_trans h.size k.size
  keep b hb hσ := by
    obtain ⟨h1, h2⟩ := h.keep b hb hσ
    obtain ⟨h3, h4⟩ := k.keep b (Nat.lt_of_lt_of_le hb h.size) h1
    exact ⟨h3, h4.trans h2⟩
  shape b c t fz hc := by
    obtain ⟨c1, fz1, h1, h2⟩ := h.shape b c t fz hc
    obtain ⟨c2, fz2, h3, h4⟩ := k.shape b c1 t fz1 h1
    exact ⟨c2, fz2, h3, h4.trans h2⟩

/-- Fewer blocks are owned behind. -/
theorem Step.less {σ σ₁ σ₂ : Store} {w w₁ : World} (h : Step σ w σ₁ w₁) (hl : ∀ b, σ₁ b = Option.none → σ₂ b = Option.none) : Step σ w σ₂ w₁ :=
  ⟨h.os, h.tape, h.output, h.size, fun b hb hσ => ⟨hl b (h.keep b hb hσ).1, (h.keep b hb hσ).2⟩, h.shape⟩

/-- More blocks were owned ahead. -/
theorem Step.more {σ σ₀ σ₁ : Store} {w w₁ : World} (h : Step σ w σ₁ w₁) (hl : ∀ b, σ₀ b = Option.none → σ b = Option.none) : Step σ₀ w σ₁ w₁ :=
  ⟨h.os, h.tape, h.output, h.size, fun b hb hσ => h.keep b hb (hl b hσ), h.shape⟩

theorem cell_of_heap {w w' : World} {b o : Nat} (h : w'.heap[b]? = w.heap[b]?) : w'.cell? ⟨b, o, Option.none⟩ = w.cell? ⟨b, o, Option.none⟩ := by
  unfold World.cell?; rw [h]

theorem VR.step {σ σ' : Store} {w w' : World} (hs : Step σ w σ' w') {a : AV} {v : Value} (h : VR σ w a v) : VR σ' w' a v := by
  induction h with
  | top v => exact .top v
  | val v => exact .val v
  | sl0 sz a cap => exact .sl0 sz a cap
  | sl l b off cap sz f hcap hsz hσ hb hc ho _ ih =>
    obtain ⟨h1, h2⟩ := hs.keep b hb hσ
    exact .sl l b off cap sz f hcap hsz h1 (Nat.lt_of_lt_of_le hb hs.size) (fun i hi => (cell_of_heap h2).trans (hc i hi)) ho ih
  | arr b off len sz cap c t fz hcap hb hroom =>
    obtain ⟨c', fz', h1, h2⟩ := hs.shape b c t fz hb
    exact .arr b off len sz cap c' t fz' hcap h1 (by omega)
  | iptr cs b off f hσ hb hc ho _ ih =>
    obtain ⟨h1, h2⟩ := hs.keep b hb hσ
    exact .iptr cs b off f h1 (Nat.lt_of_lt_of_le hb hs.size) (fun i hi => (cell_of_heap h2).trans (hc i hi)) ho ih
  | agg cs vs hs' ho _ ih => exact .agg cs vs hs' ho ih
  | tup cs vs hs' _ ih => exact .tup cs vs hs' ih
  | fn f fs cs vf vc hf hc _ _ ih1 ih2 => exact .fn f fs cs vf vc hf hc ih1 ih2
  | ifc t a v _ ih => exact .ifc t a v ih

/-- Fewer blocks owned: what is said stays. -/
theorem VR.less {σ σ' : Store} {w : World} (hl : ∀ b, σ b = Option.none → σ' b = Option.none) {a : AV} {v : Value} (h : VR σ w a v) : VR σ' w a v :=
  h.step ((Step.refl σ w).less hl)

theorem VRs.step {σ σ' : Store} {w w' : World} (hs : Step σ w σ' w') {as : List AV} {vs : Array Value} (h : VRs σ w as vs) : VRs σ' w' as vs :=
  ⟨h.1, fun i y hy => (h.2 i y hy).step hs⟩

theorem Rel.lt {σ : Store} {w : World} (h : Rel σ w) {b : Nat} {o : AObj} (hb : σ b = some o) : b < w.heap.size := by
  have := h b o hb
  rcases Nat.lt_or_ge b w.heap.size with h' | h'
  · exact h'
  · cases o with
    | row cs => obtain ⟨c, t, fz, hc, _⟩ := this; simp [Array.getElem?_eq_none h'] at hc
    | raw o => have := this.1; simp [Array.getElem?_eq_none h'] at this
    | loop r e => have := this.1; simp [Array.getElem?_eq_none h'] at this

theorem Rel.fresh {σ : Store} {w : World} (h : Rel σ w) {b : Nat} (hb : w.heap.size ≤ b) : σ b = Option.none := by
  cases hσ : σ b with
  | none => rfl
  | some o => exact absurd (h.lt hσ) (by omega)

theorem Rel.empty (w : World) : Rel emptyS w := fun b o h => by simp [emptyS] at h

/-- Fewer blocks. -/
theorem Rel.less {σ σ' : Store} {w : World} (h : Rel σ w) (hl : ∀ b o, σ' b = some o → σ b = some o) : Rel σ' w := by
  intro b o hb
  have hn : ∀ b, σ b = Option.none → σ' b = Option.none := fun b hb => by
    cases hσ : σ' b with
    | none => rfl
    | some o => rw [hl b o hσ] at hb; cases hb
  have := h b o (hl b o hb)
  cases o with
  | row cs => obtain ⟨c, t, fz, h1, h2, h3, h5, h4⟩ := this; exact ⟨c, t, fz, h1, h2, h3, h5, fun i y hy => (h4 i y hy).less hn⟩
  | raw o => exact this
  | loop r e => exact ⟨this.1, fun i x hx => (this.2 i x hx).less hn⟩

/-! ### The world's steps -/

theorem heap_alloc_lt {w : World} {o : Obj} {b : Nat} (h : b < w.heap.size) : (w.alloc o).heap[b]? = w.heap[b]? := Below.heap_alloc w o b h
theorem heap_alloc_eq (w : World) (o : Obj) : (w.alloc o).heap[w.heap.size]? = some o := by
  show (w.heap.push o)[w.heap.size]? = _
  simp

theorem lt_of_heap {w : World} {b : Nat} {o : Obj} (h : w.heap[b]? = some o) : b < w.heap.size := by
  rcases Nat.lt_or_ge b w.heap.size with h' | h'
  · exact h'
  · simp [Array.getElem?_eq_none h'] at h

/-- A new block. -/
theorem Step.alloc (σ : Store) (w : World) (o : Obj) (ao : AObj) : Step σ w (σ.set w.heap.size ao) (w.alloc o) where
  os := rfl
  tape := rfl
  output := rfl
  size := by simp
  keep b hb hσ := ⟨by simp only [Store.set]; rw [if_neg (by omega)]; exact hσ, heap_alloc_lt hb⟩
  shape b c t fz hc := ⟨c, fz, (heap_alloc_lt (lt_of_heap hc)).trans hc, rfl⟩

/-- A new block that is nobody's. -/
theorem Step.alloc' (σ : Store) (w : World) (o : Obj) : Step σ w σ (w.alloc o) where
  os := rfl
  tape := rfl
  output := rfl
  size := by simp
  keep b hb hσ := ⟨hσ, heap_alloc_lt hb⟩
  shape b c t fz hc := ⟨c, fz, (heap_alloc_lt (lt_of_heap hc)).trans hc, rfl⟩

theorem Step.drew (σ : Store) (w : World) : Step σ w σ w.drew := ⟨rfl, rfl, rfl, Nat.le_refl _, fun _ _ h => ⟨h, rfl⟩, fun _ c _ fz h => ⟨c, fz, h, rfl⟩⟩

theorem ORel.step {σ σ' : Store} {w w' : World} (hs : Step σ w σ' w') {b : Nat} {o : AObj} (hw : w'.heap[b]? = w.heap[b]?) (h : ORel σ w b o) : ORel σ' w' b o := by
  cases o with
  | row cs => obtain ⟨c, t, fz, h1, h2, h3, h5, h4⟩ := h; exact ⟨c, t, fz, hw.trans h1, h2, h3, h5, fun i y hy => (h4 i y hy).step hs⟩
  | raw o => exact ⟨hw.trans h.1, h.2⟩
  | loop r e => exact ⟨hw.trans h.1, fun i x hx => (h.2 i x hx).step hs⟩

theorem Rel.alloc {σ : Store} {w : World} (h : Rel σ w) {o : Obj} {ao : AObj} (ho : ORel (σ.set w.heap.size ao) (w.alloc o) w.heap.size ao) : Rel (σ.set w.heap.size ao) (w.alloc o) := by
  intro b o' hb
  by_cases e : b = w.heap.size
  · subst e
    simp only [Store.set, if_true] at hb
    injection hb with hb
    subst hb
    exact ho
  · simp only [Store.set, if_neg e] at hb
    exact (h b o' hb).step (Step.alloc σ w o ao) (heap_alloc_lt (h.lt hb))

theorem Rel.drew {σ : Store} {w : World} (h : Rel σ w) : Rel σ w.drew := fun b o hb => (h b o hb).step (Step.drew σ w) rfl

/-- One block of the store is written: any object, of which the row's length is kept. -/
theorem Step.write {σ : Store} {w w' : World} {b : Nat} {o ao : AObj} (hσ : σ b = some o) (hos : w'.os = w.os) (ht : w'.tape = w.tape) (hout : w'.output = w.output) (hsz : w'.heap.size = w.heap.size)
    (hk : ∀ x, x ≠ b → w'.heap[x]? = w.heap[x]?) (hsh : ∀ c t fz, w.heap[b]? = some (.cells c t fz) → ∃ c' fz', w'.heap[b]? = some (.cells c' t fz') ∧ c'.size = c.size) :
    Step σ w (σ.set b ao) w' where
  os := hos
  tape := ht
  output := hout
  size := by omega
  keep x hx hn := by
    have hne : x ≠ b := fun e => by subst e; rw [hσ] at hn; cases hn
    exact ⟨by simp only [Store.set, if_neg hne]; exact hn, hk x hne⟩
  shape x c t fz hc := by
    by_cases e : x = b
    · subst e; exact hsh c t fz hc
    · exact ⟨c, fz, (hk x e).trans hc, rfl⟩

theorem Rel.write {σ : Store} {w w' : World} (h : Rel σ w) {b : Nat} {ao : AObj} (hs : Step σ w (σ.set b ao) w') (hk : ∀ x, x ≠ b → w'.heap[x]? = w.heap[x]?) (ho : ORel (σ.set b ao) w' b ao) :
    Rel (σ.set b ao) w' := by
  intro x o' hx
  by_cases e : x = b
  · subst e
    simp only [Store.set, if_true] at hx
    injection hx with hx
    subst hx
    exact ho
  · simp only [Store.set, if_neg e] at hx
    exact (h x o' hx).step hs (hk x e)

/-! ### Lookups in the store -/

theorem Store.get_set (σ : Store) (b : Nat) (o : AObj) : σ.set b o b = some o := by simp [Store.set]
theorem Store.get_set_ne (σ : Store) {b x : Nat} (h : x ≠ b) (o : AObj) : σ.set b o x = σ x := by simp [Store.set, h]
theorem Store.get_fresh {σ : Store} {b x : Nat} {o o' : AObj} (h : σ b = Option.none) (hx : σ x = some o') : σ.set b o x = some o' := by
  have hne : x ≠ b := fun e => by subst e; rw [h] at hx; cases hx
  rw [Store.get_set_ne σ hne, hx]
theorem Store.set_set (σ : Store) (b : Nat) (o o' : AObj) : (σ.set b o).set b o' = σ.set b o' := by
  funext x; simp only [Store.set]; split <;> rfl
theorem Store.set_comm (σ : Store) {b b' : Nat} (h : b ≠ b') (o o' : AObj) : (σ.set b o).set b' o' = (σ.set b' o').set b o := by
  funext x; simp only [Store.set]; split <;> rename_i h1 <;> split <;> rename_i h2 <;> simp_all
theorem Store.set_none_iff (σ : Store) (b x : Nat) (o : AObj) : σ.set b o x = Option.none ↔ (x ≠ b ∧ b ≠ x) ∧ σ x = Option.none := by
  simp only [Store.set]; constructor
  · intro h; split at h
    · cases h
    · rename_i hne; exact ⟨⟨hne, fun e => hne e.symm⟩, h⟩
  · rintro ⟨⟨h, _⟩, h2⟩; rw [if_neg h]; exact h2

end Go.Cr
