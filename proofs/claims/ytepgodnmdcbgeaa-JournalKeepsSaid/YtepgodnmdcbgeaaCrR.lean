/-
The abstract layer, part 18: maps: looking up, putting in, taking out, going over one.
No statement of the program; no condition.
-/
import Derived.Test.YtepgodnmdcbgeaaCrQ
import Derived.Maps.RangeRun
import Derived.MapKept

namespace Go.Cr
open Go Go.RowKit

variable {P : Program} {T : Tab}

/-! ### Keys -/

/-- Where a key is, and what stands there. -/
def findK {κ : Type} [DecidableEq κ] (k : κ) : List (κ × Value) → Nat → Option (Nat × Value)
  | [], _ => none
  | p :: l, i => if k = p.1 then some (i, p.2) else findK k l (i + 1)

/-- Keys of a type: what the model does to find them. ok: which keys may be compared. -/
structure KeyOk (P : Program) (kt : TypeId) {κ : Type} [DecidableEq κ] (enc : κ → Value) (ok : Store → κ → Prop) : Prop where
  inj : ∀ a b, enc a = enc b → a = b
  check : ∀ (b : Bool) (k : κ) (w : World), (Instr.checkKey b 10000 kt (enc k)).run P w = .ok () w
  find : ∀ (k : κ) (es : List MapEntry) (l : List (κ × Value)) (σ : Store) (w : World), Rel σ w → ok σ k → (∀ p ∈ l, ok σ p.1) → es.map (fun e => (e.key, e.val)) = l.map (fun p => (enc p.1, p.2)) → (Instr.findKey kt (enc k) es).run P w = .ok (findK k l 0) w
  bits : ∀ k, Instr.sameBits 10000 (enc k) (enc k) = true

def okAll {κ : Type} : Store → κ → Prop := fun _ _ => True

theorem keyOk_string {kt : TypeId} (hk : P.underlying kt = some .string) : KeyOk P kt (κ := ByteArray) Value.string okAll where
  inj := fun a b h => by injection h
  check := fun b k w => by
    rw [show (10000 : Nat) = 9999 + 1 from rfl]
    unfold Instr.checkKey
    simp only [Sem.run_bind, run_underlying' hk, Result.andThen_ok, Sem.run_pure]
  find := fun k es l σ w _ _ _ h => by
    have key : ∀ (es : List MapEntry) (l : List (ByteArray × Value)) (i : Nat), es.map (fun e => (e.key, e.val)) = l.map (fun p => (Value.string p.1, p.2)) → Instr.findNow .string (.string k) es i = some (findK k l i) := by
      intro es
      induction es with
      | nil => intro l i h; cases l with
        | nil => rfl
        | cons p l => simp at h
      | cons e es ih =>
        intro l i h
        cases l with
        | nil => simp at h
        | cons p l =>
          simp only [List.map_cons, List.cons.injEq, Prod.mk.injEq] at h
          obtain ⟨⟨h1, h2⟩, h3⟩ := h
          simp only [Instr.findNow, h1, Instr.sameNow, findK]
          by_cases hkp : k = p.1
          · have : (k == p.1) = true := (MapKept.bytes_beq _ _).2 hkp
            simp only [this, if_pos hkp, h2]
          · have : (k == p.1) = false := by
              cases hb : (k == p.1) with
              | false => rfl
              | true => exact absurd ((MapKept.bytes_beq _ _).1 hb) hkp
            simp only [this, if_neg hkp]
            exact ih l (i + 1) h3
    simp only [Instr.findKey, Sem.run_bind, run_underlying' hk, Result.andThen_ok, key es l 0 h, Sem.run_pure]
  bits := fun k => by
    unfold Instr.sameBits
    exact (MapKept.bytes_beq _ _).2 rfl

def encP (b : Nat) : Value := .pointer (some ⟨b, 0, none⟩)
/-- A block that is owned, of at least one cell. -/
def okP (σ : Store) (b : Nat) : Prop := ∃ x cs, σ b = some (.row (x :: cs))

theorem sameAddr_rows {σ : Store} {w : World} (hrel : Rel σ w) {a b : Nat} (ha : okP σ a) (hb : okP σ b) : (sameAddr ⟨a, 0, none⟩ ⟨b, 0, none⟩).run P w = .ok (decide (a = b)) w := by
  obtain ⟨x, cs, ha⟩ := ha
  obtain ⟨y, ds, hb⟩ := hb
  obtain ⟨c1, t1, f1, h1, l1, z1, _⟩ := hrel a _ ha
  obtain ⟨c2, t2, f2, h2, l2, z2, _⟩ := hrel b _ hb
  simp only [List.length_cons] at l1 l2
  by_cases e : a = b
  · subst e; simp [sameAddr]
  · have p1 := z1 0 (by omega)
    have p2 := z1 c1.size (by omega)
    have p3 := z2 0 (by omega)
    have q1 : ¬ (f1.1 = 0 ∧ 0 < f1.2) := by omega
    have q3 : ¬ (f2.1 = 0 ∧ 0 < f2.2) := by omega
    obtain ⟨f11, f12⟩ := f1
    obtain ⟨f21, f22⟩ := f2
    have n1 : c1.size ≠ 0 := by omega
    have n2 : c2.size ≠ 0 := by omega
    dsimp only at p1 p2 p3 q1 q3
    have g1 : ∀ o, o < c1.size + 1 → w.frozen? ⟨a, o, none⟩ = false := fun o ho => by
      have := z1 o ho
      simp only [World.frozen?, h1]
      dsimp only at this
      simp only [Bool.and_eq_false_iff, decide_eq_false_iff_not]
      omega
    have g2 : ∀ o, o < c2.size + 1 → w.frozen? ⟨b, o, none⟩ = false := fun o ho => by
      have := z2 o ho
      simp only [World.frozen?, h2]
      dsimp only at this
      simp only [Bool.and_eq_false_iff, decide_eq_false_iff_not]
      omega
    have s1 : w.shape? a = some (t1, c1.size) := by simp only [World.shape?, h1]
    have s2 : w.shape? b = some (t2, c2.size) := by simp only [World.shape?, h2]
    simp [sameAddr, e, g1, g2, noView, viewAt, mayBeOne, stringish, s1, s2]

theorem keyOk_ptr {kt el : TypeId} {i : TypeInfo} (hk : P.underlying kt = some (.pointer el)) (hi : P.info? el = some i) (hs : i.size ≠ 0) : KeyOk P kt (κ := Nat) encP okP where
  inj := fun a b h => by simp only [encP, Value.pointer.injEq, Option.some.injEq, Addr.mk.injEq] at h; exact h.1
  check := fun b k w => by
    rw [show (10000 : Nat) = 9999 + 1 from rfl]
    unfold Instr.checkKey
    simp only [Sem.run_bind, run_underlying' hk, Result.andThen_ok, encP, Sem.run_pure]
  find := fun k es l σ w hrel hok hokl h => by
    have eq1 : ∀ a b : Nat, okP σ a → okP σ b → (Op.equal kt (encP a) (encP b)).run P w = .ok (decide (a = b)) w := by
      intro a b ha hb
      have hsz : ∀ w, (sizeOf el).run P w = .ok i.size w := fun w => by simp [sizeOf, typeInfo, hi]
      unfold Op.equal
      rw [show Op.maxDepth = 9999 + 1 from rfl]
      unfold Op.equalIn
      simp only [Sem.run_bind, run_underlying' hk, Result.andThen_ok, encP, hsz, hs, ne_eq, not_false_eq_true, if_true]
      exact sameAddr_rows hrel ha hb
    have key : ∀ (es : List MapEntry) (l : List (Nat × Value)) (i : Nat), (∀ p ∈ l, okP σ p.1) → es.map (fun e => (e.key, e.val)) = l.map (fun p => (encP p.1, p.2)) → (Instr.findAsking kt (encP k) es i).run P w = .ok (findK k l i) w := by
      intro es
      induction es with
      | nil => intro l i _ h; cases l with
        | nil => rfl
        | cons p l => simp at h
      | cons e es ih =>
        intro l i hokl h
        cases l with
        | nil => simp at h
        | cons p l =>
          simp only [List.map_cons, List.cons.injEq, Prod.mk.injEq] at h
          obtain ⟨⟨h1, h2⟩, h3⟩ := h
          simp only [Instr.findAsking, h1, Sem.run_bind, eq1 k p.1 hok (hokl p List.mem_cons_self), Result.andThen_ok, findK]
          by_cases hkp : k = p.1
          · simp [hkp, h2]
          · simp only [hkp, decide_false, if_false, Bool.false_eq_true]
            exact ih l (i + 1) (fun q hq => hokl q (List.mem_cons_of_mem _ hq)) h3
    cases es with
    | nil =>
      cases l with
      | cons p l => simp at h
      | nil => simp only [Instr.findKey, Sem.run_bind, run_underlying' hk, Result.andThen_ok, Instr.findNow, Sem.run_pure]; rfl
    | cons e es =>
      have hn : Instr.findNow (.pointer el) (encP k) (e :: es) 0 = none := by
        simp only [Instr.findNow, Instr.sameNow]
      simp only [Instr.findKey, Sem.run_bind, run_underlying' hk, Result.andThen_ok, hn]
      exact key _ l 0 hokl h
  bits := fun k => by
    unfold Instr.sameBits encP
    exact beq_self_eq_true _

/-! ### A map as a list of keys and values -/

structure MapIs {κ : Type} (enc : κ → Value) (es : Array MapEntry) (clock : Nat) (l : List (κ × Value)) : Prop where
  kv : es.toList.map (fun e => (e.key, e.val)) = l.map (fun p => (enc p.1, p.2))
  nodup : (l.map (·.1)).Nodup
  born : ∀ e ∈ es.toList, e.born < clock
  bnodup : (es.toList.map (·.born)).Nodup

theorem MapIs.empty {κ : Type} (enc : κ → Value) : MapIs enc #[] 0 [] := ⟨rfl, by simp, by simp, by simp⟩

def assoc {κ : Type} [DecidableEq κ] (k : κ) : List (κ × Value) → Option Value
  | [] => none
  | p :: l => if k = p.1 then some p.2 else assoc k l

/-- A key is given a value: in its place, or at the end. -/
def mput {κ : Type} [DecidableEq κ] (k : κ) (v : Value) : List (κ × Value) → List (κ × Value)
  | [] => [(k, v)]
  | p :: l => if k = p.1 then (k, v) :: l else p :: mput k v l

def mdel {κ : Type} [DecidableEq κ] (k : κ) : List (κ × Value) → List (κ × Value)
  | [] => []
  | p :: l => if k = p.1 then l else p :: mdel k l

section
variable {κ : Type} [DecidableEq κ]

theorem findK_assoc (k : κ) : ∀ (l : List (κ × Value)) (i : Nat), (findK k l i).map (·.2) = assoc k l
  | [], _ => rfl
  | p :: l, i => by
    simp only [findK, assoc]
    split
    · rfl
    · exact findK_assoc k l (i + 1)

theorem findK_some {k : κ} : ∀ {l : List (κ × Value)} {i j : Nat} {v : Value}, findK k l i = some (j, v) → i ≤ j ∧ l[j - i]? = some (k, v) ∧ (∀ u, mput k u l = l.set (j - i) (k, u)) ∧ mdel k l = l.eraseIdx (j - i)
  | [], _, _, _, h => by cases h
  | p :: l, i, j, v, h => by
    simp only [findK] at h
    split at h
    · rename_i hk
      injection h with h; injection h with h1 h2; subst h1; subst h2; subst hk
      refine ⟨Nat.le_refl _, by simp, fun u => by simp [mput], by simp [mdel]⟩
    · rename_i hk
      obtain ⟨h1, h2, h3, h4⟩ := findK_some h
      have e : j - i = (j - (i + 1)) + 1 := by omega
      refine ⟨by omega, by rw [e]; simpa using h2, fun u => by rw [e]; simp [mput, hk, h3 u], by rw [e]; simp [mdel, hk, h4]⟩

theorem findK_none {k : κ} : ∀ {l : List (κ × Value)} {i : Nat}, findK k l i = none → (∀ p ∈ l, p.1 ≠ k) ∧ (∀ u, mput k u l = l ++ [(k, u)]) ∧ mdel k l = l
  | [], _, _ => ⟨by simp, fun u => by simp [mput], rfl⟩
  | p :: l, i, h => by
    simp only [findK] at h
    split at h
    · cases h
    · rename_i hk
      obtain ⟨h1, h2, h3⟩ := findK_none h
      exact ⟨fun q hq => by
        rcases List.mem_cons.1 hq with rfl | hq
        · exact fun e => hk e.symm
        · exact h1 q hq, fun u => by simp [mput, hk, h2 u], by simp [mdel, hk, h3]⟩

theorem MapIs.put {enc : κ → Value} {es : Array MapEntry} {clock : Nat} {l : List (κ × Value)} (h : MapIs enc es clock l) (k : κ) (v : Value) :
    (∀ i u, findK k l 0 = some (i, u) → MapIs enc (es.modify i fun e => { e with key := enc k, val := v }) clock (mput k v l)) ∧
    (findK k l 0 = none → MapIs enc (es.push { key := enc k, val := v, born := clock }) (clock + 1) (mput k v l)) := by
  constructor
  · intro i u hf
    obtain ⟨_, h2, h3, _⟩ := findK_some hf
    rw [Nat.sub_zero] at h2 h3
    have hl : es.toList.length = l.length := by simpa using congrArg List.length h.kv
    have hi : i < es.size := by
      have := (List.getElem?_eq_some_iff.1 h2).1
      rw [← hl] at this; simpa using this
    have hb : ((es.modify i fun e => { e with key := enc k, val := v }).toList.map (·.born)) = es.toList.map (·.born) := by
      apply List.ext_getElem
      · simp
      · intro n h1 h2
        simp only [List.getElem_map, Array.getElem_toList, Array.getElem_modify]
        split <;> rfl
    refine ⟨?_, ?_, ?_, by rw [hb]; exact h.bnodup⟩
    · rw [h3 v, List.map_set]
      apply List.ext_getElem
      · simp [hl]
      · intro n h4 h5
        have hn : n < es.size := by simpa using h4
        have hkv := congrArg (fun x => x[n]?) h.kv
        simp only [List.getElem?_map] at hkv
        simp only [List.getElem_map, Array.getElem_toList, Array.getElem_modify, List.getElem_set]
        by_cases e : i = n
        · subst e; simp
        · have hn' : n < l.length := by rw [← hl]; simpa using hn
          simp only [e, if_false]
          have e1 : es.toList[n]? = some es[n] := by simp [hn]
          have e2 : l[n]? = some l[n] := by simp [hn']
          rw [e1, e2] at hkv
          simpa using hkv
    · rw [h3 v, List.map_set]
      have : (l.map (·.1)).set i k = l.map (·.1) := by
        apply List.ext_getElem
        · simp
        · intro n h4 h5
          rw [List.getElem_set]
          split
          · rename_i e; subst e
            have hn' : i < l.length := by simpa using h5
            have e2 : l[i]? = some l[i] := by simp [hn']
            rw [e2] at h2
            injection h2 with h2
            simp [h2]
          · rfl
      rw [this]; exact h.nodup
    · intro e he
      have : e.born ∈ es.toList.map (·.born) := by rw [← hb]; exact List.mem_map_of_mem he
      obtain ⟨e', h4, h5⟩ := List.mem_map.1 this
      have := h.born e' h4
      rw [h5] at this; exact this
  · intro hf
    obtain ⟨h1, h2, _⟩ := findK_none hf
    refine ⟨by simp [h.kv, h2 v], ?_, ?_, ?_⟩
    · rw [h2 v, List.map_append, List.nodup_append]
      refine ⟨h.nodup, by simp, ?_⟩
      intro a ha b hb
      obtain ⟨p, hp, rfl⟩ := List.mem_map.1 ha
      simp only [List.map_cons, List.map_nil, List.mem_singleton] at hb
      subst hb; exact h1 p hp
    · intro e he
      simp only [Array.toList_push, List.mem_append, List.mem_singleton] at he
      rcases he with he | rfl
      · have := h.born e he; omega
      · exact Nat.lt_succ_self _
    · simp only [Array.toList_push, List.map_append, List.nodup_append]
      refine ⟨h.bnodup, by simp, ?_⟩
      intro a ha b hb
      obtain ⟨e, he, rfl⟩ := List.mem_map.1 ha
      simp only [List.map_cons, List.map_nil, List.mem_singleton] at hb
      subst hb
      have := h.born e he
      omega

theorem map_erase {α β : Type} (f : α → β) : ∀ (l : List α) (i : Nat), (l.eraseIdx i).map f = (l.map f).eraseIdx i
  | [], _ => by simp
  | _ :: _, 0 => by simp
  | x :: l, i + 1 => by simp [map_erase f l i]

theorem MapIs.del {enc : κ → Value} {es : Array MapEntry} {clock : Nat} {l : List (κ × Value)} (h : MapIs enc es clock l) {k : κ} {i : Nat} {u : Value} (hf : findK k l 0 = some (i, u)) :
    MapIs enc (es.eraseIdxIfInBounds i) clock (mdel k l) := by
  obtain ⟨_, h2, _, h4⟩ := findK_some hf
  rw [Nat.sub_zero] at h2 h4
  have hl : es.toList.length = l.length := by simpa using congrArg List.length h.kv
  have hi : i < es.size := by
    have := (List.getElem?_eq_some_iff.1 h2).1
    rw [← hl] at this; simpa using this
  have he : (es.eraseIdxIfInBounds i).toList = es.toList.eraseIdx i := by
    simp [Array.eraseIdxIfInBounds, hi]
  refine ⟨?_, ?_, ?_, ?_⟩
  · rw [he, h4, map_erase, map_erase, h.kv]
  · rw [h4, map_erase]
    exact h.nodup.sublist (List.eraseIdx_sublist _ _)
  · intro e hm
    rw [he] at hm
    exact h.born e (List.mem_of_mem_eraseIdx hm)
  · rw [he, map_erase]
    exact h.bnodup.sublist (List.eraseIdx_sublist _ _)
end

/-! ### The operations -/

theorem heapSet {w : World} {b : Nat} {o : Obj} (hb : w.heap[b]? = some o) (o' : Obj) : ({ w with heap := w.heap.setIfInBounds b o' } : World).heap[b]? = some o' ∧ ∀ x, x ≠ b → ({ w with heap := w.heap.setIfInBounds b o' } : World).heap[x]? = w.heap[x]? := MapKept.heap_set hb

theorem setRaw {σ : Store} {w : World} (hrel : Rel σ w) {b : Nat} {o o' : Obj} (hσ : σ b = some (.raw o)) (ho' : ∀ c t fz, o' ≠ .cells c t fz) :
    Rel (σ.set b (.raw o')) { w with heap := w.heap.setIfInBounds b o' } ∧ Step σ w (σ.set b (.raw o')) { w with heap := w.heap.setIfInBounds b o' } := by
  obtain ⟨h1, h2⟩ := hrel b _ hσ
  obtain ⟨k1, k2⟩ := heapSet h1 o'
  have hs : Step σ w (σ.set b (.raw o')) { w with heap := w.heap.setIfInBounds b o' } := Step.write hσ rfl rfl rfl (by simp) k2 (fun c t fz hc => by
    rw [h1] at hc; injection hc with hc; exact absurd hc (h2 c t fz))
  exact ⟨hrel.write hs k2 ⟨k1, ho'⟩, hs⟩

section
variable {κ : Type} [DecidableEq κ] {enc : κ → Value} {okk : Store → κ → Prop} {kt et t : TypeId} {ti : TI}

theorem lookup_rule (hT : TabOk P T) (hk : KeyOk P kt enc okk) (ht : T.get t = some ti) (hti : ti.kind = .map kt et) {ei : TI} (he : T.get et = some ei) {x i : Operand} {ty : TypeId} {σ : Store} {m : Nat} {k : κ} {l : List (κ × Value)} {es : Array MapEntry} {clock : Nat} {K : AV → Store → Prop}
    (hm : σ m = some (.raw (.map es clock))) (hl : MapIs enc es clock l) (hok : okk σ k) (hokl : ∀ p ∈ l, okk σ p.1) (h1 : ∀ v, assoc k l = some v → K (.val v) σ) (h2 : assoc k l = none → K (.val ei.zero) σ) :
    AOpaque P (.lookup t x i false) ty [some (.val (.map (some m))), some (.val (enc k))] σ K := by
  refine ⟨fun ρ w op ho hty hrel hv => ?_⟩
  obtain ⟨⟨d, hd, hk2⟩, _⟩ := hT t ti ht
  rw [hti] at hk2; have := tk_map hk2; subst this
  have v1 := hv 0 x _ (by simp [Op.operands]) rfl
  have v2 := hv 1 i _ (by simp [Op.operands]) rfl
  have e1 : ρ x = .map (some m) := v1.val_inv
  have e2 : ρ i = enc k := v2.val_inv
  obtain ⟨hb, _⟩ := hrel m _ hm
  have hf := hk.find k es.toList l σ w hrel hok hokl hl.kv
  have hz : (zeroValue et).run P w = .ok ei.zero w := run_zero' hT he w
  have run : (Instr.lookup t (.map (some m)) (enc k) false).run P w = .ok ((assoc k l).getD ei.zero) w := by
    simp only [Instr.lookup, Sem.run_bind, run_underlying' hd, Result.andThen_ok, MapKept.run_getObj_map hb, Sem.run_pure, hk.check, hf]
    rw [← findK_assoc k l 0]
    cases findK k l 0 with
    | none => simp only [Sem.run_bind, hz, Result.andThen_ok, Sem.run_pure]; rfl
    | some p => rfl
  simp only [execOp, ho, e1, e2, Sem.run_bind, run, Result.andThen_ok, Sem.run_pure]
  refine Post.same hrel (.val _) ?_
  cases ha : assoc k l with
  | none => exact h2 ha
  | some v => exact h1 v ha

theorem update_rule (hT : TabOk P T) (hk : KeyOk P kt enc okk) (ht : T.get t = some ti) (hti : ti.kind = .map kt et) {x i y : Operand} {ty : TypeId} {σ : Store} {m : Nat} {k : κ} {v : Value} {l : List (κ × Value)} {es : Array MapEntry} {clock : Nat} {K : AV → Store → Prop}
    (hm : σ m = some (.raw (.map es clock))) (hl : MapIs enc es clock l) (hok : okk σ k) (hokl : ∀ p ∈ l, okk σ p.1) (h : ∀ es' clock', MapIs enc es' clock' (mput k v l) → K .top (σ.set m (.raw (.map es' clock')))) :
    AOpaque P (.mapUpdate t x i y) ty [some (.val (.map (some m))), some (.val (enc k)), some (.val v)] σ K := by
  refine ⟨fun ρ w op ho hty hrel hv => ?_⟩
  obtain ⟨⟨d, hd, hk2⟩, _⟩ := hT t ti ht
  rw [hti] at hk2; have := tk_map hk2; subst this
  have e1 : ρ x = .map (some m) := (hv 0 x _ (by simp [Op.operands]) rfl).val_inv
  have e2 : ρ i = enc k := (hv 1 i _ (by simp [Op.operands]) rfl).val_inv
  have e3 : ρ y = v := (hv 2 y _ (by simp [Op.operands]) rfl).val_inv
  obtain ⟨hb, _⟩ := hrel m _ hm
  have hf := hk.find k es.toList l σ w hrel hok hokl hl.kv
  obtain ⟨p1, p2⟩ := hl.put k v
  cases hfk : findK k l 0 with
  | none =>
    have run : (Instr.mapUpdate t (.map (some m)) (enc k) v).run P w = .ok () { w with heap := w.heap.setIfInBounds m (.map (es.push { key := enc k, val := v, born := clock }) (clock + 1)) } := by
      simp only [Instr.mapUpdate, Sem.run_bind, run_underlying' hd, Result.andThen_ok, MapKept.run_getObj_map hb, hk.check, hf, hfk, MapKept.run_setObj_map _ hb]
    simp only [execOp, ho, e1, e2, e3, Sem.run_bind, run, Result.andThen_ok, Sem.run_pure]
    obtain ⟨r1, r2⟩ := setRaw hrel hm (o' := .map (es.push { key := enc k, val := v, born := clock }) (clock + 1)) (by simp)
    exact ⟨.top, _, h _ _ (p2 hfk), .top _, r1, r2⟩
  | some p =>
    obtain ⟨j, u⟩ := p
    obtain ⟨_, g2, _, _⟩ := findK_some hfk
    rw [Nat.sub_zero] at g2
    have hl2 : es.toList.length = l.length := by simpa using congrArg List.length hl.kv
    have hj : j < es.size := by
      have := (List.getElem?_eq_some_iff.1 g2).1
      rw [← hl2] at this; simpa using this
    have hkey : es[j].key = enc k := by
      have hkv := congrArg (fun x => x[j]?) hl.kv
      simp only [List.getElem?_map, g2] at hkv
      have e1 : es.toList[j]? = some es[j] := by simp [hj]
      rw [e1] at hkv
      simp at hkv; exact hkv.1
    have hst : (Instr.keyThatStays (enc k) (enc k)).run P w = .ok (enc k) w := by
      simp only [Instr.keyThatStays, hk.bits, if_true, Sem.run_pure]
    have run : (Instr.mapUpdate t (.map (some m)) (enc k) v).run P w = .ok () { w with heap := w.heap.setIfInBounds m (.map (es.modify j fun e => { e with key := enc k, val := v }) clock) } := by
      have e1 : es[j]? = some es[j] := by simp [hj]
      simp only [Instr.mapUpdate, Sem.run_bind, run_underlying' hd, Result.andThen_ok, MapKept.run_getObj_map hb, hk.check, hf, hfk, e1, Option.map_some, Option.getD_some, hkey, hst, MapKept.run_setObj_map _ hb]
    simp only [execOp, ho, e1, e2, e3, Sem.run_bind, run, Result.andThen_ok, Sem.run_pure]
    obtain ⟨r1, r2⟩ := setRaw hrel hm (o' := .map (es.modify j fun e => { e with key := enc k, val := v }) clock) (by simp)
    exact ⟨.top, _, h _ _ (p1 j u hfk), .top _, r1, r2⟩

theorem delete_rule (hT : TabOk P T) (hk : KeyOk P kt enc okk) (ht : T.get t = some ti) (hti : ti.kind = .map kt et) {x i : Operand} {t2 ty : TypeId} {σ : Store} {m : Nat} {k : κ} {l : List (κ × Value)} {es : Array MapEntry} {clock : Nat} {K : AV → Store → Prop}
    (hm : σ m = some (.raw (.map es clock))) (hl : MapIs enc es clock l) (hok : okk σ k) (hokl : ∀ p ∈ l, okk σ p.1) (h : ∀ es' clock', MapIs enc es' clock' (mdel k l) → K .top (σ.set m (.raw (.map es' clock')))) :
    AOpaque P (.call { callee := .builtin .delete, args := #[x, i], argTypes := #[t, t2] }) ty [some (.val (.map (some m))), some (.val (enc k))] σ K := by
  refine ⟨fun ρ w op ho hty hrel hv => ?_⟩
  obtain ⟨⟨d, hd, hk2⟩, _⟩ := hT t ti ht
  rw [hti] at hk2; have := tk_map hk2; subst this
  have e1 : ρ x = .map (some m) := (hv 0 x _ (by simp [Op.operands, Call.operands]) rfl).val_inv
  have e2 : ρ i = enc k := (hv 1 i _ (by simp [Op.operands, Call.operands]) rfl).val_inv
  obtain ⟨hb, _⟩ := hrel m _ hm
  have hf := hk.find k es.toList l σ w hrel hok hokl hl.kv
  have run : ∀ (es' : Array MapEntry), (match findK k l 0 with
      | some (i, _) => es.eraseIdxIfInBounds i
      | none => es) = es' → (Builtin.delete_ #[t, t2] op.type #[.map (some m), enc k]).run P w = .ok (.tuple #[]) { w with heap := w.heap.setIfInBounds m (.map es' clock) } := by
    intro es' he'
    subst he'
    have a0 : (#[t, t2] : Array TypeId)[0]? = some t := rfl
    have a1 : (#[.map (some m), enc k] : Array Value)[0]? = some (.map (some m)) := rfl
    have a2 : (#[.map (some m), enc k] : Array Value)[1]? = some (enc k) := rfl
    simp only [Builtin.delete_, a0, a1, a2, Sem.run_bind, run_underlying' hd, Result.andThen_ok, MapKept.run_getObj_map hb, hk.check, hf]
    cases findK k l 0 with
    | none => simp only [Sem.run_bind, MapKept.run_setObj_map _ hb, Result.andThen_ok, Sem.run_pure]
    | some p => simp only [Sem.run_bind, MapKept.run_setObj_map _ hb, Result.andThen_ok, Sem.run_pure]
  have fin : ∀ es', MapIs enc es' clock (mdel k l) → (Builtin.delete_ #[t, t2] op.type #[.map (some m), enc k]).run P w = .ok (.tuple #[]) { w with heap := w.heap.setIfInBounds m (.map es' clock) } → Lands P (Post σ w K) ((execOp ρ op).run P w) := by
    intro es' hes hr
    obtain ⟨r1, r2⟩ := setRaw hrel hm (o' := .map es' clock) (by simp)
    have hx : (execOp ρ op).run P w = .ok (.value (.tuple #[])) { w with heap := w.heap.setIfInBounds m (.map es' clock) } := by
      simp only [execOp, ho, resolve, Sem.run_bind, Sem.run_pure, Result.andThen_ok, invoke, builtin]
      simp only [List.map_toArray, List.map_cons, List.map_nil, e1, e2, hr, Result.andThen_ok]
    rw [hx]
    exact ⟨.top, _, h _ _ hes, .top _, r1, r2⟩
  cases hfk : findK k l 0 with
  | none =>
    obtain ⟨_, _, g⟩ := findK_none hfk
    exact fin es (by rw [g]; exact hl) (run es (by rw [hfk]))
  | some p =>
    obtain ⟨j, u⟩ := p
    exact fin _ (hl.del hfk) (run _ (by rw [hfk]))
end

end Go.Cr
