/-
The abstract layer, part 4: loads, stores, addresses, new variables, slices, appends and copies, reckoned on abstract values; each sound for the model's own run.
No statement of the program; no condition.
-/
import Derived.Test.YtepgodnmdcbgeaaCrC

namespace Go.Cr
open Go Go.RowKit

def nth {α : Type} : List α → Nat → Option α
  | [], _ => none
  | x :: _, 0 => some x
  | _ :: l, n + 1 => nth l n
theorem nth_eq {α : Type} : ∀ (l : List α) (n : Nat), nth l n = l[n]?
  | [], n => by simp [nth]
  | x :: _, 0 => by simp [nth]
  | _ :: l, n + 1 => by simp [nth, nth_eq l n]

section
variable (T : Tab)

/-! ### The definitions -/

def loadA (t : TypeId) (a : AV) (σ : Store) (K : AV → Store → Prop) : Prop :=
  match T.get t with
  | some ti =>
    match a with
    | .val (.pointer (some ⟨b, off, none⟩)) => ∃ cs, σ b = some (.row cs) ∧
        match ti.agg with
        | true => off + ti.size ≤ cs.length ∧ K (.agg ((cs.drop off).take ti.size)) σ
        | false => match nth cs off with
          | some x => K x σ
          | none => False
    | .iptr cs =>
        match ti.agg with
        | true => ti.size ≤ cs.length ∧ K (.agg (cs.take ti.size)) σ
        | false => match nth cs 0 with
          | some x => K x σ
          | none => False
    | _ => False
  | none => False

def storeA (t : TypeId) (a v : AV) (σ : Store) (K : AV → Store → Prop) : Prop :=
  match T.get t with
  | some ti =>
    match v.ones, a with
    | true, .val (.pointer (some ⟨b, off, none⟩)) =>
      match Nat.beq v.cells.length ti.size with
      | true => ∃ cs, σ b = some (.row cs) ∧ off + v.cells.length ≤ cs.length ∧ K .top (σ.set b (.row (putA cs off v.cells)))
      | false => False
    | _, _ => False
  | none => False

def fieldAddrA (s : TypeId) (x : AV) (f : Nat) (K : AV → Prop) : Prop :=
  match T.get s with
  | some ti =>
    match ti.kind with
    | .struct fs =>
      match nth fs f with
      | some (off, ft) =>
        match T.get ft with
        | some fti =>
          match Nat.beq fti.size 0, x with
          | false, .val (.pointer (some ⟨b, o, none⟩)) => K (.val (.pointer (some ⟨b, o + off, none⟩)))
          | false, .iptr cs => K (.iptr (cs.drop off))
          | _, _ => False
        | none => False
      | none => False
    | _ => False
  | none => False

def fieldA (s : TypeId) (x : AV) (f : Nat) (K : AV → Prop) : Prop :=
  match T.get s with
  | some ti =>
    match ti.kind with
    | .struct fs =>
      match nth fs f with
      | some (off, ft) =>
        match T.get ft with
        | some fti =>
          match fti.agg, x with
          | true, .agg cs => off + fti.size ≤ cs.length ∧ K (.agg ((cs.drop off).take fti.size))
          | false, .agg cs => match nth cs off with
            | some y => K y
            | none => False
          | _, _ => False
        | none => False
      | none => False
    | _ => False
  | none => False

/-- An element of a slice that nobody writes. -/
def elemOfSl (l : List AV) (i : Int) (K : AV → Prop) : Prop := ∃ x, 0 ≤ i ∧ l[i.toNat]? = some x ∧ K (.iptr x.cells)

def indexAddrA (t : TypeId) (x i : AV) (K : AV → Prop) : Prop :=
  match T.get t, i with
  | some ti, .val (.int _ i) =>
    match ti.kind with
    | .slice e =>
      match T.get e with
      | some ei =>
        match x with
        | .sl sz l => match Nat.beq sz ei.size with
          | true => elemOfSl l i K
          | false => False
        | .arr b off len sz => match Nat.beq sz ei.size with
          | true => 0 ≤ i ∧ i < len ∧ K (.val (.pointer (some ⟨b, off + i.toNat * sz, none⟩)))
          | false => False
        | _ => False
      | none => False
    | .array n e =>
      match T.get e with
      | some ei =>
        match x with
        | .val (.pointer (some ⟨b, off, none⟩)) => 0 ≤ i ∧ i < n ∧ K (.val (.pointer (some ⟨b, off + i.toNat * ei.size, none⟩)))
        | .iptr cs => 0 ≤ i ∧ i < n ∧ K (.iptr (cs.drop (i.toNat * ei.size)))
        | _ => False
      | none => False
    | _ => False
  | _, _ => False

def indexA (t : TypeId) (x i : AV) (K : AV → Prop) : Prop :=
  match T.get t, i with
  | some ti, .val (.int _ i) =>
    match ti.kind, x with
    | .string, .val (.string s) => ∃ c, 0 ≤ i ∧ s.data[i.toNat]? = some c ∧ K (.val (.int .u8 c.toNat))
    | .array n e, .agg cs =>
      match T.get e with
      | some ei =>
        match ei.agg with
        | true => 0 ≤ i ∧ i < n ∧ i.toNat * ei.size + ei.size ≤ cs.length ∧ K (.agg ((cs.drop (i.toNat * ei.size)).take ei.size))
        | false => ∃ y, 0 ≤ i ∧ i < n ∧ cs[i.toNat * ei.size]? = some y ∧ K y
      | none => False
    | _, _ => False
  | _, _ => False

/-- A new variable, or row. -/
def newA (cs : List AV) (k : Nat → AV) (σ : Store) (K : AV → Store → Prop) : Prop := ∀ b, σ b = none → K (k b) (σ.set b (.row cs))

def ptrA (b : Nat) : AV := .val (.pointer (some ⟨b, 0, none⟩))

/-- A new variable that holds a value: it may be taken as nobody's to write (left), or as owned (right). -/
def boxA (a : AV) (σ : Store) (K : AV → Store → Prop) : Prop :=
  match a.ones with
  | true => K (.iptr a.cells) σ ∨ newA a.cells ptrA σ K
  | false => False

def allocA (t : TypeId) (σ : Store) (K : AV → Store → Prop) : Prop :=
  match T.get t with
  | some ti => match AV.ones (.val ti.zero) with
    | true => newA (AV.cells (.val ti.zero)) ptrA σ K
    | false => False
  | none => False

/-- Bounds of a slice expression: absent ones are 0 and the length. -/
def boundA (d : Nat) : Option AV → (Int → Prop) → Prop
  | none, K => K d
  | some (.val (.int _ i)), K => K i
  | _, _ => False

def sliceA (t : TypeId) (x : AV) (lo hi : Option AV) (K : AV → Prop) : Prop :=
  match T.get t with
  | some ti =>
    match ti.kind, x with
    | .slice e, .sl sz l =>
      match T.get e with
      | some ei => match Nat.beq sz ei.size with
        | true => boundA l.length hi fun h => boundA 0 lo fun i => 0 ≤ i ∧ i ≤ h ∧ h ≤ l.length ∧ K (.sl sz ((l.drop i.toNat).take (h.toNat - i.toNat)))
        | false => False
      | none => False
    | .slice e, .arr b off len sz =>
      match T.get e with
      | some ei => match Nat.beq sz ei.size with
        | true => boundA len hi fun h => boundA 0 lo fun i => 0 ≤ i ∧ i ≤ h ∧ h ≤ len ∧ (i = 0 ∨ i < h) ∧ K (.arr b (off + i.toNat * sz) (h.toNat - i.toNat) sz)
        | false => False
      | none => False
    | .string, .val (.string s) => boundA s.size hi fun h => boundA 0 lo fun i => 0 ≤ i ∧ i ≤ h ∧ h ≤ s.size ∧ K (.val (.string (s.extract i.toNat h.toNat)))
    | .slice e, .val (.slice none 0 0) =>
      match T.get e with
      | some _ => boundA 0 hi fun h => boundA 0 lo fun i => h = 0 ∧ i = 0 ∧ K (.val (.slice none 0 0))
      | none => False
    | _, _ => False
  | none => False

/-- What a source of append or copy holds: its flat cells, how many elements. -/
def srcA (sz : Nat) (x : AV) (σ : Store) (K : List AV → Nat → Prop) : Prop :=
  match x with
  | .sl sz' l => match Nat.beq sz' sz with
    | true => K (l.flatMap AV.cells) l.length
    | false => False
  | .arr b off len sz' => match Nat.beq sz' sz with
    | true => ∃ cs, σ b = some (.row cs) ∧ off + len * sz ≤ cs.length ∧ K ((cs.drop off).take (len * sz)) len
    | false => False
  | .val (.slice none 0 0) => K [] 0
  | .val (.string s) => sz = 1 ∧ K (s.data.toList.map fun c => .val (.int .u8 c.toNat)) s.size
  | _ => False

def roomN : Nat := 140737488355328

def appendA (t : TypeId) (s x : AV) (σ : Store) (K : AV → Store → Prop) : Prop :=
  match T.get t with
  | some ti =>
    match ti.kind with
    | .slice e =>
      match T.get e with
      | some ei => srcA ei.size x σ fun news m =>
          match s with
          | .val (.slice none 0 0) => m * ei.bytes ≤ roomN ∧ m ≤ 9223372036854775807 ∧ (m = 0 → K (.val (.slice none 0 0)) σ) ∧ (0 < m → newA news (fun b => .arr b 0 m ei.size) σ K)
          | .arr b 0 len sz => ∃ cs, σ b = some (.row cs) ∧ sz = ei.size ∧ cs.length = len * sz ∧ (len + m) * ei.bytes ≤ roomN ∧ len + m ≤ 9223372036854775807 ∧
              newA (cs ++ news) (fun b' => .arr b' 0 (len + m) sz) (σ.del b) K
          | _ => False
      | none => False
    | _ => False
  | none => False

end
end Go.Cr
