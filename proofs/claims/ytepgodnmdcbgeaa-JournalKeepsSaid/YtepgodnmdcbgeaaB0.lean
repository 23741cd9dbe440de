/-
Part of the proof of a claim over this seat: the layer on which the program is reckoned, and what its functions do. Conditions: none.
-/
import Derived.Test.YtepgodnmdcbgeaaCrY
import Derived.Test.YtepgodnmdcbgeaaProg
import Derived.KernelRfl
import Derived.Shelf.Sort.Plain

/-
The types of the program, as the translation has them, in the abstract layer's table; the table fits the program.
-/

namespace Go.Cr.Try
open Go Go.Cr

noncomputable abbrev P : Program := Go.Proofs.Try.prog

def T : Tab := [
  (0, ⟨.other, 1, 0, .tuple #[]⟩),
  (1, ⟨.func, 1, 8, .nilFunc⟩),
  (2, ⟨.int .i64, 1, 8, .int .i64 0⟩),
  (3, ⟨.int .i64, 1, 8, .int .i64 0⟩),
  (4, ⟨.bool, 1, 1, .bool false⟩),
  (5, ⟨.int .u8, 1, 1, .int .u8 0⟩),
  (6, ⟨.int .u8, 1, 1, .int .u8 0⟩),
  (7, ⟨.struct [(0, 2), (1, 3), (2, 4), (3, 6)], 4, 24, .agg #[.int .i64 0, .int .i64 0, .bool false, .int .u8 0]⟩),
  (8, ⟨.struct [(0, 2), (1, 3), (2, 4), (3, 6)], 4, 24, .agg #[.int .i64 0, .int .i64 0, .bool false, .int .u8 0]⟩),
  (9, ⟨.string, 1, 16, .string ⟨#[]⟩⟩),
  (10, ⟨.string, 1, 16, .string ⟨#[]⟩⟩),
  (11, ⟨.string, 1, 16, .string ⟨#[]⟩⟩),
  (12, ⟨.int .u64, 1, 8, .int .u64 0⟩),
  (13, ⟨.struct [(0, 9), (1, 12)], 2, 24, .agg #[.string ⟨#[]⟩, .int .u64 0]⟩),
  (14, ⟨.struct [(0, 9), (1, 12)], 2, 24, .agg #[.string ⟨#[]⟩, .int .u64 0]⟩),
  (15, ⟨.ptr 122, 1, 8, .pointer none⟩),
  (16, ⟨.ptr 125, 1, 8, .pointer none⟩),
  (17, ⟨.ptr 133, 1, 8, .pointer none⟩),
  (18, ⟨.struct [(0, 17)], 1, 8, .agg #[.pointer none]⟩),
  (19, ⟨.struct [(0, 17)], 1, 8, .agg #[.pointer none]⟩),
  (20, ⟨.iface, 1, 16, .nilIface⟩),
  (21, ⟨.int .i32, 1, 4, .int .i32 0⟩),
  (22, ⟨.slice 33, 1, 24, .slice none 0 0⟩),
  (23, ⟨.func, 1, 8, .nilFunc⟩),
  (24, ⟨.ptr 46, 1, 8, .pointer none⟩),
  (25, ⟨.func, 1, 8, .nilFunc⟩),
  (26, ⟨.slice 28, 1, 24, .slice none 0 0⟩),
  (27, ⟨.func, 1, 8, .nilFunc⟩),
  (28, ⟨.slice 5, 1, 24, .slice none 0 0⟩),
  (29, ⟨.slice 3, 1, 24, .slice none 0 0⟩),
  (30, ⟨.struct [(0, 3), (1, 29)], 2, 32, .agg #[.int .i64 0, .slice none 0 0]⟩),
  (31, ⟨.struct [(0, 3), (1, 29)], 2, 32, .agg #[.int .i64 0, .slice none 0 0]⟩),
  (32, ⟨.struct [(0, 5), (1, 28), (2, 31), (4, 3)], 5, 72, .agg #[.int .u8 0, .slice none 0 0, .int .i64 0, .slice none 0 0, .int .i64 0]⟩),
  (33, ⟨.struct [(0, 5), (1, 28), (2, 31), (4, 3)], 5, 72, .agg #[.int .u8 0, .slice none 0 0, .int .i64 0, .slice none 0 0, .int .i64 0]⟩),
  (34, ⟨.int .i64, 1, 8, .int .i64 0⟩),
  (35, ⟨.func, 1, 8, .nilFunc⟩),
  (36, ⟨.func, 1, 8, .nilFunc⟩),
  (37, ⟨.func, 1, 8, .nilFunc⟩),
  (38, ⟨.other, 1, 0, .tuple #[.slice none 0 0, .int .i64 0]⟩),
  (39, ⟨.func, 1, 8, .nilFunc⟩),
  (40, ⟨.func, 1, 8, .nilFunc⟩),
  (41, ⟨.func, 1, 8, .nilFunc⟩),
  (42, ⟨.map 9 51, 1, 8, .map none⟩),
  (43, ⟨.map 9 51, 1, 8, .map none⟩),
  (44, ⟨.slice 53, 1, 24, .slice none 0 0⟩),
  (45, ⟨.struct [(0, 43), (1, 43), (2, 44), (3, 3), (4, 4), (5, 4), (6, 3)], 7, 64, .agg #[.map none, .map none, .slice none 0 0, .int .i64 0, .bool false, .bool false, .int .i64 0]⟩),
  (46, ⟨.struct [(0, 43), (1, 43), (2, 44), (3, 3), (4, 4), (5, 4), (6, 3)], 7, 64, .agg #[.map none, .map none, .slice none 0 0, .int .i64 0, .bool false, .bool false, .int .i64 0]⟩),
  (47, ⟨.other, 1, 0, .tuple #[.slice none 0 0, .int .i64 0]⟩),
  (48, ⟨.func, 1, 8, .nilFunc⟩),
  (49, ⟨.func, 1, 8, .nilFunc⟩),
  (50, ⟨.func, 1, 8, .nilFunc⟩),
  (51, ⟨.ptr 58, 1, 8, .pointer none⟩),
  (52, ⟨.struct [(0, 9), (1, 9), (2, 51)], 3, 40, .agg #[.string ⟨#[]⟩, .string ⟨#[]⟩, .pointer none]⟩),
  (53, ⟨.struct [(0, 9), (1, 9), (2, 51)], 3, 40, .agg #[.string ⟨#[]⟩, .string ⟨#[]⟩, .pointer none]⟩),
  (54, ⟨.func, 1, 8, .nilFunc⟩),
  (55, ⟨.slice 9, 1, 24, .slice none 0 0⟩),
  (56, ⟨.func, 1, 8, .nilFunc⟩),
  (57, ⟨.struct [(0, 28), (1, 3)], 2, 32, .agg #[.slice none 0 0, .int .i64 0]⟩),
  (58, ⟨.struct [(0, 28), (1, 3)], 2, 32, .agg #[.slice none 0 0, .int .i64 0]⟩),
  (59, ⟨.func, 1, 8, .nilFunc⟩),
  (60, ⟨.other, 1, 0, .tuple #[.slice none 0 0, .int .i64 0]⟩),
  (61, ⟨.func, 1, 8, .nilFunc⟩),
  (62, ⟨.func, 1, 8, .nilFunc⟩),
  (63, ⟨.func, 1, 8, .nilFunc⟩),
  (64, ⟨.func, 1, 8, .nilFunc⟩),
  (65, ⟨.int .u64, 1, 8, .int .u64 0⟩),
  (66, ⟨.func, 1, 8, .nilFunc⟩),
  (67, ⟨.func, 1, 8, .nilFunc⟩),
  (68, ⟨.func, 1, 8, .nilFunc⟩),
  (69, ⟨.func, 1, 8, .nilFunc⟩),
  (70, ⟨.func, 1, 8, .nilFunc⟩),
  (71, ⟨.func, 1, 8, .nilFunc⟩),
  (72, ⟨.func, 1, 8, .nilFunc⟩),
  (73, ⟨.func, 1, 8, .nilFunc⟩),
  (74, ⟨.other, 1, 0, .tuple #[.pointer none, .int .i64 0]⟩),
  (75, ⟨.func, 1, 8, .nilFunc⟩),
  (76, ⟨.other, 1, 0, .tuple #[.slice none 0 0, .int .i64 0, .int .i64 0]⟩),
  (77, ⟨.func, 1, 8, .nilFunc⟩),
  (78, ⟨.func, 1, 8, .nilFunc⟩),
  (79, ⟨.func, 1, 8, .nilFunc⟩),
  (80, ⟨.int .u32, 1, 4, .int .u32 0⟩),
  (81, ⟨.func, 1, 8, .nilFunc⟩),
  (82, ⟨.slice 69, 1, 24, .slice none 0 0⟩),
  (83, ⟨.func, 1, 8, .nilFunc⟩),
  (84, ⟨.func, 1, 8, .nilFunc⟩),
  (85, ⟨.func, 1, 8, .nilFunc⟩),
  (86, ⟨.int .u64, 1, 8, .int .u64 0⟩),
  (87, ⟨.other, 1, 0, .tuple #[.int .i64 0, .int .i64 0]⟩),
  (88, ⟨.func, 1, 8, .nilFunc⟩),
  (89, ⟨.func, 1, 8, .nilFunc⟩),
  (90, ⟨.func, 1, 8, .nilFunc⟩),
  (91, ⟨.func, 1, 8, .nilFunc⟩),
  (92, ⟨.func, 1, 8, .nilFunc⟩),
  (93, ⟨.func, 1, 8, .nilFunc⟩),
  (94, ⟨.map 51 4, 1, 8, .map none⟩),
  (95, ⟨.func, 1, 8, .nilFunc⟩),
  (96, ⟨.int .i64, 1, 8, .int .i64 0⟩),
  (97, ⟨.other, 1, 0, .tuple #[.int .i64 0, .int .i64 0]⟩),
  (98, ⟨.func, 1, 8, .nilFunc⟩),
  (99, ⟨.func, 1, 8, .nilFunc⟩),
  (100, ⟨.func, 1, 8, .nilFunc⟩),
  (101, ⟨.func, 1, 8, .nilFunc⟩),
  (102, ⟨.other, 1, 0, .tuple #[.int .i64 0, .bool false]⟩),
  (103, ⟨.func, 1, 8, .nilFunc⟩),
  (104, ⟨.func, 1, 8, .nilFunc⟩),
  (105, ⟨.func, 1, 8, .nilFunc⟩),
  (106, ⟨.other, 1, 0, .tuple #[.int .u64 0, .slice none 0 0, .int .i64 0]⟩),
  (107, ⟨.func, 1, 8, .nilFunc⟩),
  (108, ⟨.func, 1, 8, .nilFunc⟩),
  (109, ⟨.array 256 80, 256, 1024, .agg (Array.replicate 256 (.int .u32 0))⟩),
  (110, ⟨.func, 1, 8, .nilFunc⟩),
  (111, ⟨.int .u64, 1, 8, .int .u64 0⟩),
  (112, ⟨.func, 1, 8, .nilFunc⟩),
  (113, ⟨.func, 1, 8, .nilFunc⟩),
  (114, ⟨.func, 1, 8, .nilFunc⟩),
  (115, ⟨.ptr 3, 1, 8, .pointer none⟩),
  (116, ⟨.func, 1, 8, .nilFunc⟩),
  (117, ⟨.ptr 111, 1, 8, .pointer none⟩),
  (118, ⟨.other, 1, 0, .tuple #[.int .i64 0, .int .i64 0]⟩),
  (119, ⟨.func, 1, 8, .nilFunc⟩),
  (120, ⟨.func, 1, 8, .nilFunc⟩),
  (121, ⟨.struct [(0, 17), (1, 17), (2, 17), (3, 9)], 4, 40, .agg #[.pointer none, .pointer none, .pointer none, .string ⟨#[]⟩]⟩),
  (122, ⟨.struct [(0, 17), (1, 17), (2, 17), (3, 9)], 4, 40, .agg #[.pointer none, .pointer none, .pointer none, .string ⟨#[]⟩]⟩),
  (123, ⟨.array 0 16, 0, 0, .agg #[]⟩),
  (124, ⟨.struct [(0, 123)], 0, 0, .agg #[]⟩),
  (125, ⟨.struct [(0, 123)], 0, 0, .agg #[]⟩),
  (126, ⟨.int .u8, 1, 1, .int .u8 0⟩),
  (127, ⟨.int .u8, 1, 1, .int .u8 0⟩),
  (128, ⟨.func, 1, 8, .nilFunc⟩),
  (129, ⟨.ptr 5, 1, 8, .pointer none⟩),
  (130, ⟨.int .i32, 1, 4, .int .i32 0⟩),
  (131, ⟨.int .i32, 1, 4, .int .i32 0⟩),
  (132, ⟨.struct [(0, 12), (1, 12), (2, 80), (3, 126), (4, 5), (5, 5), (6, 127), (7, 128), (8, 129), (9, 130), (10, 131)], 11, 48, .agg #[.int .u64 0, .int .u64 0, .int .u32 0, .int .u8 0, .int .u8 0, .int .u8 0, .int .u8 0, .nilFunc, .pointer none, .int .i32 0, .int .i32 0]⟩),
  (133, ⟨.struct [(0, 12), (1, 12), (2, 80), (3, 126), (4, 5), (5, 5), (6, 127), (7, 128), (8, 129), (9, 130), (10, 131)], 11, 48, .agg #[.int .u64 0, .int .u64 0, .int .u32 0, .int .u8 0, .int .u8 0, .int .u8 0, .int .u8 0, .nilFunc, .pointer none, .int .i32 0, .int .i32 0]⟩)]

theorem ok : TabOk P T := TabOk.of_list (by kernel_rfl) (by kernel_rfl)

theorem mixed : P.follows .mixedOrders = true := by kernel_rfl

end Go.Cr.Try

namespace Go.Cr.Try
open Go Go.Cr Go.Proofs

/-- slices.Clone of bytes: nil, or a row of one's own. -/
theorem clone_own (l : List UInt8) (σ : Store) (R : AV → Store → Prop) (hl : l.length ≤ 140737488351232) (h0 : l = [] → R (.val (.slice none 0 0)) σ)
    (h : ∀ b, σ b = none → R (.arr b 0 l.length 1) (σ.set b (.row (l.map u8)))) : ACalls P 34 [bys l] σ R := by
  refine AInv.seen (AInv.of_body ok Try.func34 rfl (by decide) rfl ?_)
  conv => whnf
  intro r hr
  conv => whnf
  refine bcase_intro (fun hb => ?_) (fun hb => ?_)
  · conv => whnf
    exact ⟨_, _, .drop (.refl _), h0 (by simpa using hr hb)⟩
  · conv => whnf
    intro b hb1
    conv => whnf
    refine ⟨_, Store.get_set _ _ _, rfl, rfl, by simp [roomN]; omega, by simp; omega, fun b' hb' => ?_⟩
    conv => whnf
    rw [Store.del_set _ _ _ hb1] at hb' ⊢
    refine ⟨_, _, .drop (.refl _), ?_⟩
    have := h b' hb'
    simpa [u8_flat, repl] using this

theorem clone_v (l : List UInt8) (σ : Store) (R : AV → Store → Prop) (hl : l.length ≤ 140737488351232) (h : R (bys l) σ) : ACalls P 34 [bys l] σ R :=
  AInv.seen (clone_own l σ _ hl (fun e => ⟨_, _, .nil (.refl _), e ▸ h⟩) (fun _ hb => ⟨_, _, .bys (Store.get_set _ _ _) ((SubS.refl σ).set hb _) hb rfl, h⟩))

end Go.Cr.Try

namespace Go.Cr.Try
open Go Go.Cr Go.Proofs

theorem equal_v (a b : List UInt8) (σ : Store) (R : AV → Store → Prop) (hl : a.length ≤ 140737488351232) (h : R (.val (.bool (decide (a = b)))) σ) : ACalls P 69 [bys a, bys b] σ R := by
  refine AInv.seen (AInv.of_body ok Try.func69 rfl (by decide) rfl ?_)
  conv => whnf
  refine bcase_intro (fun hb => ?_) (fun hb => ?_) <;> (try rw [hb]); conv => whnf
  · refine ⟨_, _, .drop (.refl _), ?_⟩
    have : a ≠ b := fun e => by subst e; simp at hb
    simpa [this] using h
  · have hlen : a.length = b.length := by simp at hb; omega
    conv => whnf
    refine AW.loop ok (ι := Nat) (fun i => i ≤ a.length ∧ a.take i = b.take i) (fun i => [(13, .val (.int .i64 (i : Int))), (12, .val (.int .i64 (a.map u8).length)), (0, bys a), (1, bys b)]) (fun _ => σ) (fun i => a.length - i) 0 ⟨by omega, rfl⟩
      (.cons rfl (.cons rfl (.cons rfl (.cons rfl (.nil _))))) (.refl _) ?_
    rintro i ⟨hi, htk⟩
    conv => whnf
    refine bcase_intro (fun hb => ?_) (fun hb => ?_) <;> (try rw [hb]); conv => whnf
    · have hlt : i < a.length := by simpa using hb
      refine AW.draw ok mixed rfl rfl ?_
      conv => whnf
      refine ⟨u8 a[i], Int.natCast_nonneg _, by simp [hlt], ?_⟩
      conv => whnf
      refine ⟨u8 b[i], Int.natCast_nonneg _, by simp [hlen ▸ hlt], ?_⟩
      conv => whnf
      refine bcase_intro (fun hb => ?_) (fun hb => ?_) <;> (try rw [hb]); conv => whnf
      · refine seen ?_
        have : a ≠ b := fun e => by subst e; simp at hb
        simpa [this] using h
      · refine ⟨i + 1, ⟨by omega, ?_⟩, by dsimp only; omega, .idx rfl (by omega) (.cons rfl (.cons rfl (.cons rfl (.nil _)))), .refl _⟩
        have he : a[i] = b[i] := by
          have : (a[i].toNat : Int) = b[i].toNat := by simpa using hb
          exact UInt8.toNat_inj.1 (by omega)
        rw [List.take_add_one, List.take_add_one, htk]
        simp [hlt, hlen ▸ hlt, he]
    · conv => whnf
      refine seen ?_
      have hi' : i = a.length := by
        have : ¬ ((i : Int) < (a.map u8).length) := by simpa using hb
        simp at this; omega
      have : a = b := by
        rw [hi', List.take_length, hlen, List.take_length] at htk; exact htk
      simpa [this] using h

end Go.Cr.Try

namespace Go.Cr.Try
open Go Go.Cr Go.Proofs

def u32 (n : Int) : AV := .val (.int .u32 n)
def i64 (n : Int) : AV := .val (.int .i64 n)

def xorK (k : IntKind) (a b : Int) : Int := k.wrap (BitVec.ofInt k.bits a ^^^ BitVec.ofInt k.bits b).toNat
def andK (k : IntKind) (a b : Int) : Int := k.wrap (BitVec.ofInt k.bits a &&& BitVec.ofInt k.bits b).toNat
def shrK (k : IntKind) (a : Int) (b : Nat) : Int := a.fdiv (2 ^ min b k.bits)
def crcBit (c : Int) : Int := xorK .u32 (shrK .u32 c (Int.toNat 1)) (andK .u32 2197175160 (IntKind.wrap .u32 (0 - andK .u32 c 1)))
def itn (f : Int → Int) : Nat → Int → Int
  | 0, x => x
  | n + 1, x => f (itn f n x)
def tabAt (i : Nat) : Int := itn crcBit 8 (IntKind.wrap .u32 i)
def tabL (n : Nat) : List AV := (List.range 256).map fun j => u32 (if j < n then tabAt j else 0)

theorem tabL_len (n : Nat) : (tabL n).length = 256 := by simp [tabL]
theorem repl_range (n : Nat) (v : Value) : (Array.replicate n v).toList.map AV.val = (List.range n).map fun _ => .val v := by
  apply List.ext_getElem
  · simp
  · intro i h1 h2
    simp
theorem tabL_zero : (Array.replicate 256 (Value.int IntKind.u32 0)).toList.map AV.val = tabL 0 := by
  rw [repl_range]
  unfold tabL
  congr 1
theorem tabL_put (i : Nat) : putA (tabL i) i [u32 (tabAt i)] = tabL (i + 1) := by
  simp only [putA]
  apply List.ext_getElem
  · simp [tabL_len]
  · intro j h1 h2
    simp only [tabL_len] at h2
    simp only [List.getElem_set, tabL, List.getElem_map, List.getElem_range]
    by_cases e : i = j
    · subst e; simp
    · simp only [e, if_false]
      by_cases hj : j < i
      · simp [hj, Nat.lt_succ_of_lt hj]
      · have : ¬ j < i + 1 := by omega
        simp [hj, this]

theorem putA_all (cs l : List AV) (h : l.length = cs.length) : putA cs 0 l = l := by
  apply List.ext_getElem?
  intro i
  rw [putA_get _ _ _ (by omega)]
  by_cases hi : i < l.length
  · rw [if_pos (by omega)]; simp
  · rw [if_neg (by omega), List.getElem?_eq_none (by omega), List.getElem?_eq_none (by omega)]

set_option maxRecDepth 100000 in
theorem table_v (σ : Store) (R : AV → Store → Prop) (h : R (.agg (tabL 256)) σ) : ACalls P 71 [] σ R := by
  refine AInv.seen (AInv.of_body ok Try.func71 rfl (by decide) rfl ?_)
  conv => whnf
  intro b0 hb0
  conv => whnf
  intro b1 hb1
  conv => whnf
  refine AW.loop ok (ι := Nat) (fun i => i ≤ 256) (fun i => [(4, i64 (i : Int)), (1, ptrA b1), (0, ptrA b0)]) (fun i => (σ.set b0 (.row (tabL 0))).set b1 (.row (tabL i))) (fun i => 256 - i)
    0 (by omega) (.cons rfl (.cons rfl (.cons rfl (.nil _)))) (by rw [← tabL_zero]; exact .refl _) ?_
  intro i hi
  conv => whnf
  refine bcase_intro (fun hb => ?_) (fun hb => ?_) <;> (try rw [hb]); conv => whnf
  · have hi' : i < 256 := by simp at hb; omega
    refine AW.loop ok (ι := Nat) (fun k => k ≤ 8) (fun k => [(9, i64 (k : Int)), (3, u32 (itn crcBit k (IntKind.wrap .u32 i))), (2, i64 (i : Int)), (4, i64 (i : Int)), (1, ptrA b1), (0, ptrA b0)]) (fun _ => (σ.set b0 (.row (tabL 0))).set b1 (.row (tabL i))) (fun k => 8 - k)
      0 (by omega) (.cons rfl (.cons rfl (.cons rfl (.cons rfl (.cons rfl (.cons rfl (.nil _))))))) (.refl _) ?_
    intro k hk
    conv => whnf
    refine bcase_intro (fun hb => ?_) (fun hb => ?_) <;> (try rw [hb]); conv => whnf
    · have hk' : k < 8 := by simp at hb; omega
      refine ⟨by omega, ?_⟩
      conv => whnf
      exact ⟨k + 1, by omega, by dsimp only; omega, .idx rfl (by omega) (.cons rfl (.cons rfl (.cons rfl (.cons rfl (.cons rfl (.nil _)))))), .refl _⟩
    · have hk' : k = 8 := by simp at hb; omega
      subst hk'
      conv => whnf
      refine ⟨by omega, by omega, ?_⟩
      conv => whnf
      refine ⟨_, Store.get_set _ _ _, ?_, ?_⟩
      · rw [tabL_len]
        show 0 + (i : Int).toNat * 1 + 1 ≤ 256
        omega
      · conv => whnf
        refine ⟨i + 1, by omega, by dsimp only; omega, .idx rfl (by omega) (.cons rfl (.cons rfl (.nil _))), ?_⟩
        dsimp only
        rw [Store.set_set]
        have e : (0 + (i : Int).toNat * 1) = i := by omega
        show SubS ((σ.set b0 (.row (tabL 0))).set b1 (.row (putA (tabL i) (0 + (i : Int).toNat * 1) [u32 (tabAt i)]))) _
        rw [e, tabL_put i]; exact .refl _
  · have hi' : i = 256 := by simp at hb; omega
    subst hi'
    conv => whnf
    refine ⟨_, Store.get_set _ _ _, by rw [tabL_len]; exact Nat.le_refl 256, ?_⟩
    conv => whnf
    have hne : b0 ≠ b1 := (Store.set_fresh hb1).1.symm
    refine ⟨_, by rw [Store.get_set_ne _ hne]; exact Store.get_set _ _ _, ?_, ?_⟩
    · show 0 + ((tabL 256).take 256).length ≤ _
      rw [List.length_take, tabL_len, tabL_len]; omega
    · conv => whnf
      refine ⟨_, Store.get_set _ _ _, ?_, ?_⟩
      · rw [putA_length, tabL_len]; exact Nat.le_refl 256
      · refine ⟨_, _, .drop (((SubS.refl σ).set hb0 _ |>.set (Store.set_fresh hb1).2 _).set hb0 _), ?_⟩
        have e1 : (tabL 256).take 256 = tabL 256 := List.take_of_length_le (by rw [tabL_len]; exact Nat.le_refl _)
        have e2 : putA (tabL 0) 0 ((tabL 256).take 256) = tabL 256 := by rw [e1]; exact putA_all _ _ (by rw [tabL_len, tabL_len])
        show R (.agg ((putA (tabL 0) 0 ((tabL 256).take 256)).take 256)) σ
        rw [e2, e1]; exact h

end Go.Cr.Try

namespace Go.Cr.Try
open Go Go.Cr Go.Proofs

def notK (k : IntKind) (a : Int) : Int := k.wrap (BitVec.ofInt k.bits (if k.signed then -1 else k.max) ^^^ BitVec.ofInt k.bits a).toNat
def crcIdx (c : Int) (x : Nat) : Int := xorK .u8 (IntKind.wrap .u8 c) x
def crcByte (c : Int) (x : UInt8) : Int := xorK .u32 (tabAt (crcIdx c x.toNat).toNat) (shrK .u32 c (Int.toNat 8))
def crcAdd (c : Int) (l : List UInt8) : Int := l.foldl crcByte c
def crcSum (l : List UInt8) : Int := notK .u32 (crcAdd (notK .u32 0) l)

theorem crcIdx_lt (c : Int) (x : Nat) : 0 ≤ crcIdx c x ∧ crcIdx c x < 256 := by
  unfold crcIdx xorK
  rw [IntKind.wrap_u8]; omega

theorem tab_get (i : Int) (h0 : 0 ≤ i) (h : i < 256) : (tabL 256)[i.toNat]? = some (u32 (tabAt i.toNat)) := by
  have : i.toNat < 256 := by omega
  simp [tabL, this]

set_option maxRecDepth 100000 in
theorem crcAdd_v (s : Int) (b : List UInt8) (σ : Store) (R : AV → Store → Prop) (hl : b.length ≤ 140737488351232) (h : R (u32 (notK .u32 (crcAdd (notK .u32 s) b))) σ) : ACalls P 56 [u32 s, bys b] σ R := by
  refine AInv.seen (AInv.of_body ok Try.func56 rfl (by decide) rfl ?_)
  conv => whnf
  refine table_v _ _ ?_
  conv => whnf
  intro t ht
  conv => whnf
  refine ⟨_, Store.get_set _ _ _, by show 0 + (tabL 256).length ≤ _; rw [tabL_len]; exact Nat.le_refl 256, ?_⟩
  conv => whnf
  rw [Store.set_set]
  refine AW.loop ok (ι := Nat) (fun i => i ≤ b.length) (fun i => [(14, i64 (i : Int)), (13, .val (.int .i64 (b.map u8).length)), (12, bys b), (6, u32 (crcAdd (notK .u32 s) (b.take i))), (5, ptrA t)]) (fun _ => σ.set t (.row (tabL 256))) (fun i => b.length - i)
    0 (by omega) (.cons rfl (.cons rfl (.cons rfl (.cons rfl (.cons rfl (.nil _)))))) (by
      have : putA ((Array.replicate 256 (Value.int IntKind.u32 0)).toList.map AV.val) 0 (tabL 256) = tabL 256 := putA_all _ _ (by rw [tabL_zero, tabL_len, tabL_len])
      show SubS (σ.set t (.row (putA ((Array.replicate 256 (Value.int IntKind.u32 0)).toList.map AV.val) 0 (tabL 256)))) _
      rw [this]; exact .refl _) ?_
  intro i hi
  conv => whnf
  refine bcase_intro (fun hb => ?_) (fun hb => ?_) <;> (try rw [hb]); conv => whnf
  · have hi' : i < b.length := by simp at hb; omega
    refine ⟨_, Int.natCast_nonneg _, bys_get' hi', ?_⟩
    conv => whnf
    refine ⟨(crcIdx_lt _ _).1, (crcIdx_lt _ _).2, ?_⟩
    conv => whnf
    refine ⟨_, Store.get_set _ _ _, ?_⟩
    conv => whnf
    refine opt_some (u32 (tabAt (crcIdx (crcAdd (notK .u32 s) (b.take i)) b[i].toNat).toNat)) ?_ ?_
    · rw [nth_eq]
      have := tab_get _ (crcIdx_lt (crcAdd (notK .u32 s) (b.take i)) b[i].toNat).1 (crcIdx_lt _ _).2
      show (tabL 256)[0 + (crcIdx (crcAdd (notK .u32 s) (b.take i)) b[i].toNat).toNat * 1]? = _
      rw [Nat.zero_add, Nat.mul_one]; exact this
    conv => whnf
    refine ⟨by omega, ?_⟩
    conv => whnf
    refine ⟨i + 1, by omega, by dsimp only; omega, .idx rfl (by omega) (.cons rfl (.cons rfl (.cons ?_ (.cons rfl (.nil _))))), .refl _⟩
    have : crcAdd (notK .u32 s) (b.take (i + 1)) = crcByte (crcAdd (notK .u32 s) (b.take i)) b[i] := by
      unfold crcAdd
      rw [List.take_add_one, List.foldl_append, List.getElem?_eq_getElem hi']; rfl
    rw [this]; rfl
  · have hi' : i = b.length := by simp at hb; omega
    subst hi'
    conv => whnf
    refine ⟨_, _, .drop ((SubS.refl σ).set ht _), ?_⟩
    rw [List.take_length]; exact h

theorem crcSum_v (b : List UInt8) (σ : Store) (R : AV → Store → Prop) (hl : b.length ≤ 140737488351232) (h : R (u32 (crcSum b)) σ) : ACalls P 46 [bys b] σ R := by
  refine AInv.seen (AInv.of_body ok Try.func46 rfl (by decide) rfl ?_)
  conv => whnf
  refine crcAdd_v 0 b _ _ hl ?_
  conv => whnf
  exact seen h

end Go.Cr.Try

namespace Go.Cr.Try
open Go Go.Cr Go.Proofs

def b8 (n : Int) : UInt8 := UInt8.ofNat n.toNat
theorem u8_b8 {n : Int} (h0 : 0 ≤ n) (h1 : n < 256) : u8 (b8 n) = .val (.int .u8 n) := by
  unfold u8 b8
  have : (UInt8.ofNat n.toNat).toNat = n.toNat := by
    rw [UInt8.toNat_ofNat_of_lt']; show n.toNat < 256; omega
  rw [this]; congr 2; omega
theorem u8_wrap (n : Int) : u8 (b8 (IntKind.wrap .u8 n)) = .val (.int .u8 (IntKind.wrap .u8 n)) := by
  refine u8_b8 ?_ ?_ <;> rw [IntKind.wrap_u8] <;> omega

def tailB (s : Int) (i : Nat) : UInt8 := b8 (IntKind.wrap .u8 (shrK .u32 s (8 * i)))
def sealed (x : List UInt8) : List UInt8 := x ++ (List.range 4).map (tailB (crcSum x))
/-- The sealed bytes, of which i of the sum are there. -/
def sealI (x : List UInt8) (i : Nat) : List UInt8 := x ++ (List.range 4).map fun j => if j < i then tailB (crcSum x) j else 0

theorem sealI_len (x : List UInt8) (i : Nat) : (sealI x i).length = x.length + 4 := by simp [sealI]
theorem sealI_4 (x : List UInt8) : sealI x 4 = sealed x := by
  unfold sealI sealed
  congr 1
theorem sealI_put (x : List UInt8) {i : Nat} (hi : i < 4) : putA ((sealI x i).map u8) (x.length + i) [u8 (tailB (crcSum x) i)] = (sealI x (i + 1)).map u8 := by
  simp only [putA]
  apply List.ext_getElem
  · simp [sealI_len]
  · intro j h1 h2
    simp only [List.length_map, sealI_len] at h2
    simp only [List.getElem_set, List.getElem_map, sealI, List.getElem_append, List.getElem_range]
    by_cases e : x.length + i = j
    · subst e
      have : ¬ x.length + i < x.length := by omega
      simp [this]
    · simp only [e, if_false]
      split
      · rfl
      · rename_i hj
        by_cases hj2 : j - x.length < i
        · simp [hj2, Nat.lt_succ_of_lt hj2]
        · have : ¬ j - x.length < i + 1 := by omega
          simp [hj2, this]
theorem sealI_0 (x : List UInt8) : putA (repl (x.length + 4) [.val (.int .u8 0)]) 0 (x.map u8) = (sealI x 0).map u8 := by
  have hr : ∀ n, repl n [.val (.int .u8 0)] = List.replicate n (u8 0) := by
    intro n
    induction n with
    | zero => rfl
    | succ n ih => simp only [repl, ih, List.replicate_succ]; rfl
  rw [hr]
  apply List.ext_getElem?
  intro j
  rw [putA_get _ _ _ (by simp)]
  simp only [Nat.zero_le, Nat.zero_add, true_and, List.length_map, Nat.sub_zero, List.getElem?_map, sealI]
  by_cases hj : j < x.length
  · simp [hj, List.getElem?_append_left hj]
  · rw [if_neg hj, List.getElem?_append_right (by omega), List.getElem?_replicate, List.getElem?_map]
    by_cases h4 : j < x.length + 4
    · have : j - x.length < 4 := by omega
      simp [h4, this]
    · have : ¬ j - x.length < 4 := by omega
      simp [h4, this]

theorem seal_v (x : List UInt8) (σ : Store) (R : AV → Store → Prop) (hl : x.length ≤ 100000000) (h : R (bys (sealed x)) σ) : ACalls P 21 [bys x] σ R := by
  refine AInv.seen (AInv.of_body ok Try.func21 rfl (by decide) rfl ?_)
  conv => whnf
  have e : IntKind.wrap .i64 ((x.map u8).length + 4) = ((x.length + 4 : Nat) : Int) := by rw [List.length_map, wrap64 (by omega) (by omega)]; rfl
  rw [e]
  refine ⟨by omega, by omega, by show ((1 : Nat) : Int) * _ ≤ _; omega, by omega, fun b hσ => ?_⟩
  conv => whnf
  refine ⟨_, Store.get_set _ _ _, ?_, ?_⟩
  · rw [repl_length, List.length_map]
    show 0 + min x.length ((x.length + 4 : Nat) : Int).toNat * 1 ≤ ((x.length + 4 : Nat) : Int).toNat * 1
    omega
  conv => whnf
  refine crcSum_v x _ _ (by omega) ?_
  conv => whnf
  have hL : (x.map u8).length = x.length := List.length_map _
  refine ⟨by omega, by omega, by omega, by omega, ?_⟩
  conv => whnf
  have h4 : (((((x.length + 4 : Nat) : Int).toNat : Nat) : Int).toNat - (((x.map u8).length : Nat) : Int).toNat) = 4 := by omega
  refine AW.loop ok (ι := Nat) (fun i => i ≤ 4) (fun i => [(20, i64 (i : Int)), (19, i64 ((4 : Nat) : Int)), (4, u32 (crcSum x)), (3, .arr b 0 ((x.length + 4 : Nat) : Int).toNat 1), (0, bys x)]) (fun i => σ.set b (.row ((sealI x i).map u8))) (fun i => 4 - i)
    0 (by omega) (.cons rfl (.cons (congrArg (fun n : Nat => some (i64 (n : Int))) h4) (.cons rfl (.cons rfl (.cons rfl (.nil _)))))) (by
      rw [Store.set_set]
      have e1 : ((x.length + 4 : Nat) : Int).toNat = x.length + 4 := by omega
      have e2 : ((x.map u8).flatMap AV.cells).take (min (x.map u8).length ((x.length + 4 : Nat) : Int).toNat * 1) = x.map u8 := by
        rw [u8_flat, List.take_of_length_le]; omega
      show SubS (σ.set b (.row (putA (repl ((x.length + 4 : Nat) : Int).toNat [.val (.int .u8 0)]) 0 (((x.map u8).flatMap AV.cells).take (min (x.map u8).length ((x.length + 4 : Nat) : Int).toNat * 1))))) _
      rw [e2, e1, sealI_0]; exact .refl _) ?_
  intro i hi
  conv => whnf
  refine bcase_intro (fun hb => ?_) (fun hb => ?_) <;> (try rw [hb]); conv => whnf
  · have hi' : i < 4 := by simp at hb; omega
    have e8 : IntKind.wrap .i64 (8 * (i : Int)) = ((8 * i : Nat) : Int) := by rw [wrap64 (by omega) (by omega)]; omega
    have e9 : IntKind.wrap .i64 ((x.map u8).length + (i : Int)) = ((x.length + i : Nat) : Int) := by rw [wrap64 (by omega) (by omega)]; omega
    rw [e8]
    refine ⟨by omega, ?_⟩
    conv => whnf
    rw [e9]
    refine ⟨by omega, by omega, ?_⟩
    conv => whnf
    refine ⟨_, Store.get_set _ _ _, ?_, ?_⟩
    · rw [List.length_map, sealI_len]
      show 0 + ((x.length + i : Nat) : Int).toNat * 1 + 1 ≤ _
      omega
    conv => whnf
    refine ⟨i + 1, by omega, by dsimp only; omega, .idx rfl (by omega) (.cons rfl (.cons rfl (.cons rfl (.cons rfl (.nil _))))), ?_⟩
    rw [Store.set_set]
    have e10 : 0 + ((x.length + i : Nat) : Int).toNat * 1 = x.length + i := by omega
    have e11 : (AV.val (.int .u8 (IntKind.wrap .u8 ((crcSum x).fdiv (2 ^ min ((8 * i : Nat) : Int).toNat IntKind.u32.bits))))).cells = [u8 (tailB (crcSum x) i)] := by
      have e12 : ((8 * i : Nat) : Int).toNat = 8 * i := by omega
      rw [e12]
      show [_] = [_]
      rw [show tailB (crcSum x) i = b8 (IntKind.wrap .u8 (shrK .u32 (crcSum x) (8 * i))) from rfl, u8_wrap]; rfl
    show SubS (σ.set b (.row (putA ((sealI x i).map u8) (0 + ((x.length + i : Nat) : Int).toNat * 1) (AV.val (.int .u8 (IntKind.wrap .u8 ((crcSum x).fdiv (2 ^ min ((8 * i : Nat) : Int).toNat IntKind.u32.bits))))).cells))) (σ.set b (.row ((sealI x (i + 1)).map u8)))
    rw [e10, e11, sealI_put x hi']; exact .refl _
  · have hi' : i = 4 := by simp at hb; omega
    subst hi'
    conv => whnf
    refine ⟨_, _, .bys (Store.get_set _ _ _) ((SubS.refl σ).set hσ _) hσ ?_, by rw [sealI_4]; exact h⟩
    rw [sealI_len]; omega

end Go.Cr.Try

namespace Go.Cr.Try
open Go Go.Cr Go.Proofs

theorem grow_own (n : Nat) (σ : Store) (R : AV → Store → Prop) (hl : n ≤ 100000000) (h0 : n = 0 → R (.val (.slice none 0 0)) σ)
    (h : ∀ b, σ b = none → R (.arr b 0 0 1) (σ.set b (.row []))) : ACalls P 45 [.val (.slice none 0 0), i64 (n : Int)] σ R := by
  refine AInv.seen (AInv.of_body ok Try.func45 rfl (by decide) rfl ?_)
  conv => whnf
  have e0 : decide ((n : Int) < 0) = false := by simp
  rw [e0]
  conv => whnf
  refine cap_nil ok rfl rfl ?_
  conv => whnf
  have e1 : IntKind.wrap .i64 ((n : Int) - IntKind.wrap .i64 (((0 : Nat) : Int) - ((0 : Nat) : Int))) = ((n : Nat) : Int) := by
    rw [wrap64 (n := ((0 : Nat) : Int) - ((0 : Nat) : Int)) (by omega) (by omega), wrap64 (by omega) (by omega)]; omega
  rw [e1]
  refine bcase_intro (fun hb => ?_) (fun hb => ?_) <;> (try rw [hb]); conv => whnf
  · have hn : 0 < n := by simp at hb; omega
    refine cap_nil ok rfl rfl ?_
    conv => whnf
    refine ⟨rfl, rfl, ?_⟩
    conv => whnf
    refine append_make ok rfl rfl rfl rfl rfl hn (Nat.lt_succ_self 0) (by omega) (by show n * 1 ≤ _; omega) fun b hσ => ?_
    conv => whnf
    refine ⟨by omega, by omega, by omega, .inl rfl, ?_⟩
    conv => whnf
    exact seen (h b hσ)
  · have hn : n = 0 := by simp at hb; omega
    conv => whnf
    exact seen (h0 hn)

def byss (l : List (List UInt8)) : AV := .sl 1 (l.map bys)
def curL (l : List (List UInt8)) (i : Nat) : List UInt8 := (l.take i).flatten
theorem curL_succ (l : List (List UInt8)) {i : Nat} (h : i < l.length) : curL l (i + 1) = curL l i ++ l[i] := by
  unfold curL; rw [List.take_add_one, List.flatten_append, List.getElem?_eq_getElem h]; simp
theorem curL_le (l : List (List UInt8)) (i : Nat) : (curL l i).length ≤ l.flatten.length := by
  have : l.flatten = curL l i ++ (l.drop i).flatten := by unfold curL; rw [← List.flatten_append, List.take_append_drop]
  rw [this, List.length_append]; omega
theorem byss_get {l : List (List UInt8)} {i : Nat} (h : i < l.length) : (l.map bys)[((i : Nat) : Int).toNat]? = some (bys l[i]) := by simp [h]

def catV (l : List (List UInt8)) : Nat × Option Nat → AV
  | (_, none) => .val (.slice none 0 0)
  | (i, some b) => .arr b 0 (curL l i).length 1
def catS (l : List (List UInt8)) (σ : Store) : Nat × Option Nat → Store
  | (_, none) => σ
  | (i, some b) => σ.set b (.row ((curL l i).map u8))

theorem grow_cat (l : List (List UInt8)) (n : Nat) (σ : Store) (R : AV → Store → Prop) (hl : n ≤ 100000000) (h : ∀ ob, (ob = none → n = 0) → (∀ b, ob = some b → σ b = none) → R (catV l (0, ob)) (catS l σ (0, ob))) :
    ACalls P 45 [.val (.slice none 0 0), i64 (n : Int)] σ R :=
  grow_own n σ R hl (fun h0 => h none (fun _ => h0) (by simp)) (fun b hb => h (some b) (by simp) (fun b' e => by injection e with e; subst e; exact hb))

theorem concat_v (l : List (List UInt8)) (σ : Store) (R : AV → Store → Prop) (hl : l.flatten.length ≤ 100000000) (hn : l.length ≤ 100000000) (h : R (bys l.flatten) σ) : ACalls P 20 [byss l] σ R := by
  refine AInv.seen (AInv.of_body ok Try.func20 rfl (by decide) rfl ?_)
  conv => whnf
  refine AW.loop ok (ι := Nat) (fun i => i ≤ l.length) (fun i => [(11, i64 (i : Int)), (10, .val (.int .i64 (l.map bys).length)), (9, byss l), (3, i64 ((curL l i).length : Int)), (0, byss l)]) (fun _ => σ) (fun i => l.length - i)
    0 (by omega) (.cons rfl (.cons rfl (.cons rfl (.cons rfl (.cons rfl (.nil _)))))) (.refl _) ?_
  intro i hi
  conv => whnf
  refine bcase_intro (fun hb => ?_) (fun hb => ?_) <;> (try rw [hb]); conv => whnf
  · have hi' : i < l.length := by simp at hb; omega
    refine ⟨_, Int.natCast_nonneg _, byss_get hi', ?_⟩
    conv => whnf
    have hc := curL_le l (i + 1)
    rw [curL_succ l hi', List.length_append] at hc
    have e1 : IntKind.wrap .i64 ((curL l i).length + ((l[i].map u8).length : Nat)) = ((curL l (i + 1)).length : Int) := by
      rw [List.length_map, wrap64 (by omega) (by omega), curL_succ l hi', List.length_append]; omega
    rw [e1]
    have e2 : decide (((curL l (i + 1)).length : Int) < 0) = false := by simp
    rw [e2]
    conv => whnf
    exact ⟨i + 1, by omega, by dsimp only; omega, .idx rfl (by omega) (.cons rfl (.cons rfl (.cons rfl (.cons rfl (.nil _))))), .refl _⟩
  · have hi' : i = l.length := by simp at hb; omega
    subst hi'
    conv => whnf
    have e1 : curL l l.length = l.flatten := by unfold curL; rw [List.take_length]
    rw [e1]
    refine grow_cat l _ _ _ hl fun ob hob hob2 => ?_
    conv => whnf
    refine AW.loop ok (ι := Nat × Option Nat) (fun i => i.1 ≤ l.length ∧ (i.2 = none → l.flatten = []) ∧ ∀ b, i.2 = some b → σ b = none) (fun i => [(27, i64 (i.1 : Int)), (26, .val (.int .i64 (l.map bys).length)), (25, byss l), (6, catV l i)]) (fun i => catS l σ i) (fun i => l.length - i.1)
      (0, ob) ⟨by dsimp only; omega, fun e => List.eq_nil_of_length_eq_zero (hob e), hob2⟩ (.cons rfl (.cons rfl (.cons rfl (.cons rfl (.nil _))))) (.refl _) ?_
    rintro ⟨i, ob⟩ ⟨hi, hno, hso⟩
    dsimp only at hi hno hso
    conv => whnf
    refine bcase_intro (fun hb => ?_) (fun hb => ?_) <;> (try rw [hb]); conv => whnf
    · have hi' : i < l.length := by simp at hb; omega
      have hc := curL_le l (i + 1)
      have hcs := curL_succ l hi'
      rw [hcs, List.length_append] at hc
      refine ⟨_, Int.natCast_nonneg _, byss_get hi', ?_⟩
      conv => whnf
      cases ob with
      | none =>
        have he := hno rfl
        rw [he, List.length_nil] at hc
        have hz : l[i] = [] := List.eq_nil_of_length_eq_zero (by omega)
        have hz2 : (l[i].map u8).length = 0 := by rw [hz]; rfl
        conv => whnf
        refine ⟨by rw [hz2]; show 0 * 1 ≤ 140737488355328; omega, by omega, fun _ => ?_, fun hp => by omega⟩
        conv => whnf
        exact ⟨(i + 1, none), ⟨by dsimp only; omega, hno, hso⟩, by dsimp only; omega, .idx rfl (by omega) (.cons rfl (.cons rfl (.cons rfl (.nil _)))), .refl _⟩
      | some b =>
        have hσ := hso b rfl
        conv => whnf
        have hL : (l[i].map u8).length = l[i].length := List.length_map _
        refine ⟨_, Store.get_set _ _ _, rfl, by rw [List.length_map]; omega, by show (_ + _) * 1 ≤ 140737488355328; omega, by omega, fun b' hb' => ?_⟩
        conv => whnf
        have e3 : (catS l σ (i, some b)).del b = σ := Store.del_set _ _ _ hσ
        rw [e3] at hb' ⊢
        refine ⟨(i + 1, some b'), ⟨by dsimp only; omega, by simp, fun b'' e => by injection e with e; subst e; exact hb'⟩, by dsimp only; omega, .idx rfl (by omega) (.cons rfl (.cons rfl (.cons ?_ (.nil _)))), ?_⟩
        · show some (AV.arr b' 0 ((curL l i).length + (l[i].map u8).length) 1) = some (AV.arr b' 0 (curL l (i + 1)).length 1)
          rw [hcs, List.length_append, hL]
        · show SubS (σ.set b' (.row ((curL l i).map u8 ++ (l[i].map u8).flatMap AV.cells))) (σ.set b' (.row ((curL l (i + 1)).map u8)))
          rw [hcs, List.map_append, u8_flat]; exact .refl _
    · have hi' : i = l.length := by simp at hb; omega
      subst hi'
      conv => whnf
      cases ob with
      | none =>
        have he := hno rfl
        exact ⟨_, _, .nil (.refl _), by rw [he] at h; exact h⟩
      | some b =>
        exact ⟨_, _, .bys (Store.get_set _ _ _) ((SubS.refl σ).set (hso b rfl) _) (hso b rfl) rfl, by rw [e1]; exact h⟩

end Go.Cr.Try

namespace Go.Cr.Try
open Go Go.Cr Go.Proofs

/-- An argument may be seen otherwise. -/
theorem AInv.arg1 {f : Fn} {fs cap : List AV} {a a' : AV} {rest : List AV} {σ : Store} {R : AV → Store → Prop} (h : ∀ w v, VR σ w a v → VR σ w a' v) (hc : AInv P f fs cap (a' :: rest) σ R) : AInv P f fs cap (a :: rest) σ R :=
  ⟨fun w vf vc va h0 h1 h2 h3 => hc.out w vf vc va h0 h1 h2 ⟨by simpa using h3.1, fun i y hy => by
    cases i with
    | zero => simp at hy; subst hy; exact h w _ (h3.2 0 a rfl)
    | succ i => exact h3.2 (i + 1) y (by simpa using hy)⟩⟩

theorem nil_bys {σ : Store} (w : World) (v : Value) (h : VR σ w (.val (.slice none 0 0)) v) : VR σ w (bys []) v := by cases h; exact .sl0 _ _ _

def fixI (n : Int) (s i : Nat) : List UInt8 := (List.range i).map fun j => b8 (IntKind.wrap .u8 (shrK .u64 n (8 * (s - 1 - j))))
theorem fixI_len (n : Int) (s i : Nat) : (fixI n s i).length = i := by simp [fixI]
theorem fixI_succ (n : Int) (s i : Nat) : fixI n s (i + 1) = fixI n s i ++ [b8 (IntKind.wrap .u8 (shrK .u64 n (8 * (s - 1 - i))))] := by simp [fixI, List.range_succ]

def fixV : Nat × Option Nat → AV
  | (_, none) => .val (.slice none 0 0)
  | (i, some b) => .arr b 0 i 1
def fixS (n : Int) (s : Nat) (σ : Store) : Nat × Option Nat → Store
  | (_, none) => σ
  | (i, some b) => σ.set b (.row ((fixI n s i).map u8))

theorem clone_nil (n : Int) (s : Nat) (σ : Store) (R : AV → Store → Prop) (h : ∀ ob, (∀ b, ob = some b → σ b = none) → R (fixV (0, ob)) (fixS n s σ (0, ob))) : ACalls P 34 [.val (.slice none 0 0)] σ R :=
  AInv.arg1 (a' := bys []) nil_bys (clone_own [] σ R (by simp) (fun _ => h none (by simp)) (fun b hb => h (some b) (fun b' e => by injection e with e; subst e; exact hb)))

theorem fix_v (n : Int) (s : Nat) (hs : 1 ≤ s) (hs8 : s ≤ 8) (σ : Store) (R : AV → Store → Prop) (h : R (bys (fixI n s s)) σ) : ACalls P 22 [.val (.slice none 0 0), .val (.int .u64 n), i64 (s : Int)] σ R := by
  refine AInv.seen (AInv.of_body ok Try.func22 rfl (by decide) rfl ?_)
  conv => whnf
  refine clone_nil n s _ _ fun ob hob => ?_
  conv => whnf
  have e1 : decide ((s : Int) < 1) = false := by simp; omega
  rw [e1]
  conv => whnf
  have e2 : decide ((s : Int) > 8) = false := by simp; omega
  rw [e2]
  conv => whnf
  have e3 : IntKind.wrap .i64 ((s : Int) - 1) = ((s : Int) - 1 - ((0 : Nat) : Int)) := by rw [wrap64 (by omega) (by omega)]; omega
  rw [e3]
  refine AW.loop ok (ι := Nat × Option Nat) (fun i => i.1 ≤ s ∧ (i.2 = none → i.1 = 0) ∧ ∀ b, i.2 = some b → σ b = none) (fun i => [(8, i64 ((s : Int) - 1 - (i.1 : Int))), (7, fixV i), (1, .val (.int .u64 n))]) (fun i => fixS n s σ i) (fun i => s - i.1)
    (0, ob) ⟨by dsimp only; omega, fun _ => rfl, hob⟩ (.cons rfl (.cons rfl (.cons rfl (.nil _)))) (.refl _) ?_
  rintro ⟨i, ob⟩ ⟨hi, hno, hso⟩
  dsimp only at hi hno hso
  conv => whnf
  refine bcase_intro (fun hb => ?_) (fun hb => ?_) <;> (try rw [hb]); conv => whnf
  · have hi' : i < s := by simp at hb; omega
    have e8 : IntKind.wrap .i64 (8 * ((s : Int) - 1 - (((i, ob) : Nat × Option Nat).1 : Int))) = ((8 * (s - 1 - i) : Nat) : Int) := by dsimp only; rw [wrap64 (by omega) (by omega)]; omega
    have e9 : IntKind.wrap .i64 (((s : Int) - 1 - (((i, ob) : Nat × Option Nat).1 : Int)) - 1) = ((s : Int) - 1 - ((i + 1 : Nat) : Int)) := by dsimp only; rw [wrap64 (by omega) (by omega)]; omega
    rw [e8]
    refine ⟨by omega, ?_⟩
    conv => whnf
    intro bb hbb
    conv => whnf
    cases ob with
    | none =>
      conv => whnf
      refine ⟨_, Store.get_set _ _ _, ?_, ?_⟩
      · exact Nat.le_refl 1
      conv => whnf
      refine ⟨by show 1 * 1 ≤ 140737488355328; omega, by omega, fun h0 => absurd h0 (by omega), fun _ b' hb' => ?_⟩
      conv => whnf
      have hi0 := hno rfl
      subst hi0
      refine ⟨(1, some b'), ⟨by dsimp only; omega, by simp, fun b'' e => by injection e with e; subst e; exact (Store.set_fresh hb').2⟩, by dsimp only; omega, .cons (congrArg (fun x => some (i64 x)) e9) (.cons rfl (.cons rfl (.nil _))), ?_⟩
      have e11 : [AV.val (.int .u8 (IntKind.wrap .u8 (n.fdiv (2 ^ min ((8 * (s - 1 - 0) : Nat) : Int).toNat IntKind.u64.bits))))] = (fixI n s 1).map u8 := by
        rw [fixI_succ, List.map_append, Int.toNat_natCast]
        show [_] = [u8 (b8 (IntKind.wrap .u8 (shrK .u64 n (8 * (s - 1 - 0)))))]
        rw [u8_wrap]; rfl
      show SubS ((σ.set bb (.row _)).set b' (.row [AV.val (.int .u8 (IntKind.wrap .u8 (n.fdiv (2 ^ min ((8 * (s - 1 - 0) : Nat) : Int).toNat IntKind.u64.bits))))])) (σ.set b' (.row ((fixI n s 1).map u8)))
      rw [e11]; exact ((SubS.refl σ).set hbb _).set2 b' _
    | some b =>
      conv => whnf
      refine ⟨_, Store.get_set _ _ _, ?_, ?_⟩
      · exact Nat.le_refl 1
      conv => whnf
      have hσ := hso b rfl
      have hbb2 := Store.set_fresh hbb
      refine ⟨_, by rw [Store.get_set_ne _ (Ne.symm hbb2.1)]; exact Store.get_set _ _ _, rfl, by rw [List.length_map, fixI_len, Nat.mul_one], by show (i + 1) * 1 ≤ 140737488355328; omega, by omega, fun b' hb' => ?_⟩
      conv => whnf
      have hsub : SubS ((((σ.set b (.row ((fixI n s i).map u8))).set bb (.row [AV.val (.int .u8 (IntKind.wrap .u8 (n.fdiv (2 ^ min ((8 * (s - 1 - i) : Nat) : Int).toNat IntKind.u64.bits))))])).del b)) σ := (((SubS.refl σ).set hσ _).set hbb2.2 _).del hσ
      refine ⟨(i + 1, some b'), ⟨by dsimp only; omega, by simp, fun b'' e => by injection e with e; subst e; exact hsub.none_ hb'⟩, by dsimp only; omega, .cons (congrArg (fun x => some (i64 x)) e9) (.cons rfl (.cons rfl (.nil _))), ?_⟩
      have e11 : (fixI n s i).map u8 ++ [AV.val (.int .u8 (IntKind.wrap .u8 (n.fdiv (2 ^ min ((8 * (s - 1 - i) : Nat) : Int).toNat IntKind.u64.bits))))] = (fixI n s (i + 1)).map u8 := by
        rw [fixI_succ, List.map_append, Int.toNat_natCast]
        congr 1
        show [_] = [u8 (b8 (IntKind.wrap .u8 (shrK .u64 n (8 * (s - 1 - i)))))]
        rw [u8_wrap]; rfl
      show SubS (Store.set _ b' (.row ((fixI n s i).map u8 ++ [AV.val (.int .u8 (IntKind.wrap .u8 (n.fdiv (2 ^ min ((8 * (s - 1 - i) : Nat) : Int).toNat IntKind.u64.bits))))]))) (σ.set b' (.row ((fixI n s (i + 1)).map u8)))
      rw [e11]; exact hsub.set2 b' _
  · have hi' : i = s := by simp at hb; omega
    subst hi'
    conv => whnf
    cases ob with
    | none => have := hno rfl; omega
    | some b => exact ⟨_, _, .bys (Store.get_set _ _ _) ((SubS.refl σ).set (hso b rfl) _) (hso b rfl) (fixI_len _ _ _), h⟩

end Go.Cr.Try

namespace Go.Cr.Try
open Go Go.Cr Go.Proofs

def orK (k : IntKind) (a b : Int) : Int := k.wrap (BitVec.ofInt k.bits a ||| BitVec.ofInt k.bits b).toNat
def shlK (k : IntKind) (a : Int) (b : Nat) : Int := k.wrap (a * 2 ^ min b k.bits)
def unfixStep (v : Int) (x : UInt8) : Int := orK .u64 (shlK .u64 v (Int.toNat 8)) (IntKind.wrap .u64 x.toNat)
def unfix (l : List UInt8) : Int := l.foldl unfixStep 0

def u64 (n : Int) : AV := .val (.int .u64 n)

theorem unfix_v (l : List UInt8) (s : Nat) (hs : 1 ≤ s) (hs8 : s ≤ 8) (hl : l.length ≤ 100000000) (σ : Store) (R : AV → Store → Prop) (h1 : l.length < s → R (.tup [u64 0, .val (.slice none 0 0), i64 5]) σ)
    (h2 : s ≤ l.length → R (.tup [u64 (unfix (l.take s)), bys (l.drop s), i64 0]) σ) : ACalls P 68 [bys l, i64 (s : Int)] σ R := by
  refine AInv.seen (AInv.of_body ok Try.func68 rfl (by decide) rfl ?_)
  conv => whnf
  have e1 : decide ((s : Int) < 1) = false := by simp; omega
  rw [e1]
  conv => whnf
  have e2 : decide ((s : Int) > 8) = false := by simp; omega
  rw [e2]
  conv => whnf
  refine bcase_intro (fun hb => ?_) (fun hb => ?_) <;> (try rw [hb]); conv => whnf
  · have hlt : l.length < s := by simp at hb; omega
    exact seen (h1 hlt)
  · have hle : s ≤ l.length := by simp at hb; omega
    conv => whnf
    have hL : (l.map u8).length = l.length := List.length_map _
    refine ⟨by omega, by omega, by omega, ?_⟩
    conv => whnf
    have e3 : AV.sl 1 (((l.map u8).drop (0 : Int).toNat).take ((s : Int).toNat - (0 : Int).toNat)) = bys (l.take s) := by simp [bys, List.map_take]
    have e4 : (((l.map u8).drop (0 : Int).toNat).take ((s : Int).toNat - (0 : Int).toNat)).length = s := by simp; omega
    have hts : (l.take s).length = s := by rw [List.length_take]; omega
    refine AW.loop ok (ι := Nat) (fun i => i ≤ s) (fun i => [(26, i64 (i : Int)), (25, i64 (s : Int)), (24, bys (l.take s)), (7, u64 (unfix (l.take i))), (0, bys l), (1, i64 (s : Int))]) (fun _ => σ) (fun i => s - i)
      0 (by omega) (.cons rfl (.cons (congrArg (fun n : Nat => some (i64 (n : Int))) e4) (.cons (congrArg some e3) (.cons rfl (.cons rfl (.cons rfl (.nil _))))))) (.refl _) ?_
    intro i hi
    conv => whnf
    refine bcase_intro (fun hb => ?_) (fun hb => ?_) <;> (try rw [hb]); conv => whnf
    · have hi' : i < s := by simp at hb; omega
      have hil : i < l.length := by omega
      refine ⟨_, Int.natCast_nonneg _, bys_get' (by rw [hts]; exact hi'), ?_⟩
      conv => whnf
      refine ⟨by omega, ?_⟩
      conv => whnf
      refine ⟨i + 1, by omega, by dsimp only; omega, .idx rfl (by omega) (.cons rfl (.cons rfl (.cons ?_ (.cons rfl (.cons rfl (.nil _)))))), .refl _⟩
      have e5 : (l.take s)[i]'(by rw [hts]; exact hi') = l[i] := by simp
      have e6 : unfix (l.take (i + 1)) = unfixStep (unfix (l.take i)) l[i] := by
        unfold unfix
        rw [List.take_add_one, List.foldl_append, List.getElem?_eq_getElem hil]; rfl
      rw [e6, ← e5]; rfl
    · have hi' : i = s := by simp at hb; omega
      subst hi'
      conv => whnf
      refine ⟨by omega, by omega, by omega, ?_⟩
      conv => whnf
      have e7 : AV.sl 1 (((l.map u8).drop (i : Int).toNat).take (((l.map u8).length : Int).toNat - (i : Int).toNat)) = bys (l.drop i) := by
        rw [Int.toNat_natCast, Int.toNat_natCast, List.take_of_length_le (by simp)]
        simp [bys, List.map_drop]
      rw [e7]
      refine clone_v _ _ _ (by rw [List.length_drop]; omega) ?_
      conv => whnf
      exact seen (h2 hle)

end Go.Cr.Try

namespace Go.Cr.Try
open Go Go.Cr Go.Proofs

theorem unfix_nonneg (l : List UInt8) : 0 ≤ unfix l := by
  have : ∀ (l : List UInt8) (v : Int), 0 ≤ v → 0 ≤ l.foldl unfixStep v := by
    intro l
    induction l with
    | nil => exact fun v h => h
    | cons x l ih =>
      intro v _
      refine ih _ ?_
      unfold unfixStep orK
      have : ∀ n, 0 ≤ IntKind.wrap .u64 n := fun n => by simp [IntKind.wrap, IntKind.bits, IntKind.signed]; omega
      exact this _
  exact this l 0 (Int.le_refl 0)

def spanL (b : List UInt8) : Int × Int :=
  if b.length < 4 then (0, 5)
  else if unfix (b.take 4) > 4096 then (0, 6)
  else if (b.length : Int) < 8 + unfix (b.take 4) then (0, 5)
  else (4 + unfix (b.take 4), 0)

theorem span_v (b : List UInt8) (hl : b.length ≤ 100000000) (σ : Store) (R : AV → Store → Prop) (h : R (.tup [i64 (spanL b).1, i64 (spanL b).2]) σ) : ACalls P 51 [bys b] σ R := by
  refine AInv.seen (AInv.of_body ok Try.func51 rfl (by decide) rfl ?_)
  conv => whnf
  have hL : (b.map u8).length = b.length := List.length_map _
  have e1 : (if (4 : Int) < ((b.map u8).length : Int) then (4 : Int) else ((b.map u8).length : Int)) = ((min b.length 4 : Nat) : Int) := by
    split <;> omega
  rw [e1]
  refine ⟨by omega, by omega, by omega, ?_⟩
  conv => whnf
  have e2 : AV.sl 1 (((b.map u8).drop ((0 : Nat) : Int).toNat).take (((min b.length 4 : Nat) : Int).toNat - ((0 : Nat) : Int).toNat)) = bys (b.take (min b.length 4)) := by simp [bys, List.map_take]
  rw [e2]
  have hlen : (b.take (min b.length 4)).length = min b.length 4 := by rw [List.length_take]; omega
  refine unfix_v _ 4 (by omega) (by omega) (by omega) _ _ (fun hs => ?_) (fun hs => ?_)
  · have hs' : b.length < 4 := by omega
    conv => whnf
    have : spanL b = (0, 5) := by unfold spanL; rw [if_pos hs']
    rw [this] at h
    exact seen h
  · have hs' : ¬ b.length < 4 := by omega
    have e3 : (b.take (min b.length 4)).take 4 = b.take 4 := by
      rw [show min b.length 4 = 4 by omega, List.take_take]; rfl
    rw [e3]
    conv => whnf
    have hu := unfix_nonneg (b.take 4)
    refine bcase_intro (fun hb => ?_) (fun hb => ?_) <;> (try rw [hb]); conv => whnf
    · have hgt : unfix (b.take 4) > 4096 := by simpa using hb
      have : spanL b = (0, 6) := by unfold spanL; rw [if_neg hs', if_pos hgt]
      rw [this] at h
      exact seen h
    · have hgt : ¬ unfix (b.take 4) > 4096 := by simpa using hb
      conv => whnf
      have e4 : IntKind.wrap .i64 (8 + IntKind.wrap .i64 (unfix (b.take 4))) = 8 + unfix (b.take 4) := by rw [wrap64 (n := unfix (b.take 4)) (by omega) (by omega), wrap64 (by omega) (by omega)]
      have e5 : IntKind.wrap .i64 (4 + IntKind.wrap .i64 (unfix (b.take 4))) = 4 + unfix (b.take 4) := by rw [wrap64 (n := unfix (b.take 4)) (by omega) (by omega), wrap64 (by omega) (by omega)]
      rw [e4]
      refine bcase_intro (fun hb => ?_) (fun hb => ?_) <;> (try rw [hb]); conv => whnf
      · have hlt : (b.length : Int) < 8 + unfix (b.take 4) := by simp at hb; omega
        have : spanL b = (0, 5) := by unfold spanL; rw [if_neg hs', if_neg hgt, if_pos hlt]
        rw [this] at h
        exact seen h
      · have hlt : ¬ (b.length : Int) < 8 + unfix (b.take 4) := by simp at hb; omega
        conv => whnf
        have : spanL b = (4 + unfix (b.take 4), 0) := by unfold spanL; rw [if_neg hs', if_neg hgt, if_neg hlt]
        rw [this] at h
        rw [e5]
        exact seen h

/-- Do bytes end with their sum? -/
theorem sealed_v (b : List UInt8) (h4 : 4 ≤ b.length) (hl : b.length ≤ 10000000) (σ : Store) (R : AV → Store → Prop) (h : R (.val (.bool (decide (sealed (b.take (b.length - 4)) = b)))) σ) : ACalls P 52 [bys b] σ R := by
  refine AInv.seen (AInv.of_body ok Try.func52 rfl (by decide) rfl ?_)
  conv => whnf
  have hL : (b.map u8).length = b.length := List.length_map _
  have e1 : IntKind.wrap .i64 ((b.map u8).length - 4) = ((b.length - 4 : Nat) : Int) := by rw [wrap64 (by omega) (by omega)]; omega
  rw [e1]
  refine ⟨by omega, by omega, by omega, ?_⟩
  conv => whnf
  have e2 : AV.sl 1 (((b.map u8).drop ((0 : Nat) : Int).toNat).take (((b.length - 4 : Nat) : Int).toNat - ((0 : Nat) : Int).toNat)) = bys (b.take (b.length - 4)) := by simp [bys, List.map_take]
  rw [e2]
  refine seal_v _ _ _ (by rw [List.length_take]; omega) ?_
  conv => whnf
  have e3 : (sealed (b.take (b.length - 4))).length ≤ 140737488351232 := by unfold sealed; simp; omega
  refine equal_v _ _ _ _ e3 ?_
  conv => whnf
  exact seen h

end Go.Cr.Try

namespace Go.Cr.Try
open Go Go.Cr Go.Proofs

theorem spanL_ok {b : List UInt8} (h : (spanL b).2 = 0) : ∃ E : Nat, spanL b = ((E : Int), 0) ∧ 4 ≤ E ∧ E + 4 ≤ b.length := by
  have hu := unfix_nonneg (b.take 4)
  unfold spanL at h ⊢
  split at h
  · simp at h
  · rename_i h1
    split at h
    · simp at h
    · rename_i h2
      split at h
      · simp at h
      · rename_i h3
        rw [if_neg h1, if_neg h2, if_neg h3]
        exact ⟨4 + (unfix (b.take 4)).toNat, by simp; omega, by omega, by omega⟩

theorem sl_part {l : List UInt8} (i n : Nat) : AV.sl 1 (((l.map u8).drop i).take n) = bys ((l.drop i).take n) := by simp [bys, List.map_take, List.map_drop]

theorem take_v (b : List UInt8) (hl : b.length ≤ 10000000) (σ : Store) (R : AV → Store → Prop) (h1 : (spanL b).2 ≠ 0 → R (.tup [.val (.slice none 0 0), i64 0, i64 (spanL b).2]) σ)
    (h2 : ∀ E : Nat, spanL b = ((E : Int), 0) → sealed (b.take E) ≠ b.take (E + 4) → R (.tup [.val (.slice none 0 0), i64 0, i64 6]) σ)
    (h3 : ∀ E : Nat, spanL b = ((E : Int), 0) → sealed (b.take E) = b.take (E + 4) → R (.tup [bys ((b.drop 4).take (E - 4)), i64 ((E + 4 : Nat) : Int), i64 0]) σ) : ACalls P 35 [bys b] σ R := by
  refine AInv.seen (AInv.of_body ok Try.func35 rfl (by decide) rfl ?_)
  conv => whnf
  refine span_v b (by omega) _ _ ?_
  conv => whnf
  refine bcase_intro (fun hb => ?_) (fun hb => ?_) <;> (try rw [hb]); conv => whnf
  · have he : (spanL b).2 ≠ 0 := by simpa using hb
    exact seen (h1 he)
  · have he : (spanL b).2 = 0 := by simpa using hb
    obtain ⟨E, hE, hE4, hEl⟩ := spanL_ok he
    have hL : (b.map u8).length = b.length := List.length_map _
    conv => whnf
    have e1 : IntKind.wrap .i64 ((spanL b).1 + 4) = ((E + 4 : Nat) : Int) := by rw [hE, wrap64 (by dsimp only; omega) (by dsimp only; omega)]; rfl
    rw [e1]
    refine ⟨by omega, by omega, by omega, ?_⟩
    conv => whnf
    have e2 : AV.sl 1 (((b.map u8).drop ((0 : Nat) : Int).toNat).take (((E + 4 : Nat) : Int).toNat - ((0 : Nat) : Int).toNat)) = bys (b.take (E + 4)) := by
      rw [sl_part, Int.toNat_natCast, Int.toNat_natCast]; simp
    rw [e2]
    have hlen : (b.take (E + 4)).length = E + 4 := by rw [List.length_take]; omega
    refine sealed_v _ (by omega) (by omega) _ _ ?_
    have e3 : (b.take (E + 4)).take ((b.take (E + 4)).length - 4) = b.take E := by rw [hlen, List.take_take]; congr 1; omega
    rw [e3]
    conv => whnf
    refine bcase_intro (fun hb => ?_) (fun hb => ?_) <;> (try rw [hb]); conv => whnf
    · have hs : sealed (b.take E) ≠ b.take (E + 4) := by simpa using hb
      exact seen (h2 E hE hs)
    · have hs : sealed (b.take E) = b.take (E + 4) := by simpa using hb
      conv => whnf
      have e4 : (spanL b).1 = (E : Int) := by rw [hE]
      rw [e4]
      refine ⟨by omega, by omega, by omega, ?_⟩
      have e5 : IntKind.wrap .i64 ((E : Int) + 4) = ((E + 4 : Nat) : Int) := by rw [wrap64 (by omega) (by omega)]; rfl
      conv => whnf
      rw [e5, sl_part]
      exact seen (h3 E hE hs)

end Go.Cr.Try

namespace Go.Cr.Try
open Go Go.Cr Go.Proofs

def fix4 (n : Int) : List UInt8 := fixI n 4 4
/-- Bytes as a frame. -/
def frameL (x : List UInt8) : List UInt8 := sealed (fix4 x.length ++ x)

theorem AInv.frz1 {f : Fn} {fs cap : List AV} {a a' : AV} {rest : List AV} {σ σ' : Store} {R : AV → Store → Prop} (h : Frz a σ a' σ') (hc : AInv P f fs cap (a' :: rest) σ' R) : AInv P f fs cap (a :: rest) σ R :=
  ⟨fun w vf vc va h0 h1 h2 h3 => by
    have hn : ∀ b, σ b = none → σ' b = none := fun b hb => h.1.none_ hb
    have hless : ∀ {x : AV} {v : Value}, VR σ w x v → VR σ' w x v := fun hv => hv.less hn
    have := hc.out w vf vc va (h0.less h.1) ⟨h1.1, fun i y hy => hless (h1.2 i y hy)⟩ ⟨h2.1, fun i y hy => hless (h2.2 i y hy)⟩ ⟨by simpa using h3.1, fun i y hy => by
      cases i with
      | zero => simp at hy; subst hy; exact h.2 w _ h0 (h3.2 0 a rfl)
      | succ i => exact hless (h3.2 (i + 1) y (by simpa using hy))⟩
    exact this.mono fun v w' ⟨x, σ1, q1, q2, q3, q4⟩ => ⟨x, σ1, q1, q2, q3, q4.more hn⟩⟩

theorem Frz.byss2 {b : Nat} {x y : List UInt8} {σ : Store} (hb : σ b = none) : Frz (.arr b 0 2 1) (σ.set b (.row [bys x, bys y])) (byss [x, y]) σ :=
  Frz.sl (Store.get_set _ _ _) ((SubS.refl σ).set hb _) hb rfl (by intro u hu; simp at hu; rcases hu with rfl | rfl <;> rfl) rfl

theorem Frz.nil_bys2 {b : Nat} {y : List UInt8} {σ : Store} (hb : σ b = none) : Frz (.arr b 0 2 1) (σ.set b (.row [.val (.slice none 0 0), bys y])) (byss [[], y]) σ := by
  refine .trans (b := .sl 1 [.val (.slice none 0 0), bys y]) (σ₁ := σ) (Frz.sl (Store.get_set _ _ _) ((SubS.refl σ).set hb _) hb rfl (by intro u hu; simp at hu; rcases hu with rfl | rfl <;> rfl) rfl) ⟨.refl _, fun w v hrel hv => ?_⟩
  cases hv with
  | sl _ b off cap _ f hcap hsz hσ hb hc h1 hv =>
    refine .sl [bys [], bys y] b off cap 1 f hcap (by intro u hu; simp at hu; rcases hu with rfl | rfl <;> rfl) hσ hb hc h1 (fun i z hz => ?_)
    match i with
    | 0 => simp [bys, AV.cells] at hz; subst hz; exact nil_bys w _ (hv 0 _ rfl)
    | 1 => simp [bys, AV.cells] at hz; subst hz; exact hv 1 _ rfl
    | i + 2 => simp [bys, AV.cells] at hz

theorem put_v (x : List UInt8) (hl : x.length ≤ 10000) (σ : Store) (R : AV → Store → Prop) (h1 : x.length > 4096 → R (.tup [.val (.slice none 0 0), i64 3]) σ) (h2 : x.length ≤ 4096 → R (.tup [bys (frameL x), i64 0]) σ) :
    ACalls P 12 [.val (.slice none 0 0), bys x] σ R := by
  refine AInv.seen (AInv.of_body ok Try.func12 rfl (by decide) rfl ?_)
  conv => whnf
  have hL : (x.map u8).length = x.length := List.length_map _
  refine bcase_intro (fun hb => ?_) (fun hb => ?_) <;> (try rw [hb]); conv => whnf
  · have hgt : x.length > 4096 := by simp at hb; omega
    exact seen (h1 hgt)
  · have hle : x.length ≤ 4096 := by simp at hb; omega
    conv => whnf
    have e1 : IntKind.wrap .u64 ((x.map u8).length : Int) = (x.length : Int) := by
      simp [IntKind.wrap, IntKind.bits, IntKind.signed]; omega
    rw [e1]
    refine fix_v _ 4 (by omega) (by omega) _ _ ?_
    conv => whnf
    intro b hb
    conv => whnf
    refine AInv.frz1 (Frz.byss2 hb) (concat_v [fix4 x.length, x] _ _ (by simp [fix4, fixI_len]; omega) (by simp) ?_)
    conv => whnf
    have e2 : [fix4 x.length, x].flatten = fix4 x.length ++ x := by simp
    rw [e2]
    refine seal_v _ _ _ (by simp [fix4, fixI_len]; omega) ?_
    conv => whnf
    intro b2 hb2
    conv => whnf
    refine AInv.frz1 (Frz.nil_bys2 hb2) (concat_v [[], frameL x] _ _ (by simp [frameL, sealed, fix4, fixI_len]; omega) (by simp) ?_)
    conv => whnf
    have e3 : [[], frameL x].flatten = frameL x := by simp
    rw [e3]
    exact seen (h2 hle)

end Go.Cr.Try

namespace Go.Cr.Try
open Go Go.Cr Go.Proofs

/-- The first frame of bytes. -/
def parse1 (b : List UInt8) : Option (List UInt8 × Nat) :=
  if (spanL b).2 = 0 ∧ sealed (b.take (spanL b).1.toNat) = b.take ((spanL b).1.toNat + 4) then some ((b.drop 4).take ((spanL b).1.toNat - 4), (spanL b).1.toNat + 4) else none

theorem parse1_le {b x : List UInt8} {k : Nat} (h : parse1 b = some (x, k)) : 8 ≤ k ∧ k ≤ b.length ∧ x.length ≤ b.length := by
  unfold parse1 at h
  split at h
  · rename_i hc
    obtain ⟨E, hE, h4, hl⟩ := spanL_ok hc.1
    rw [hE] at h
    simp at h
    obtain ⟨rfl, rfl⟩ := h
    refine ⟨by omega, by omega, ?_⟩
    rw [List.length_take, List.length_drop]; omega
  · cases h

def allF : Nat → List UInt8 → List (List UInt8) × Nat
  | 0, _ => ([], 0)
  | n + 1, b => match parse1 b with
    | none => ([], 0)
    | some (x, k) => (x :: (allF n (b.drop k)).1, k + (allF n (b.drop k)).2)

theorem allF_same : ∀ (n m : Nat) (b : List UInt8), b.length ≤ n → b.length ≤ m → allF n b = allF m b
  | 0, 0, _, _, _ => rfl
  | 0, m + 1, b, h, _ => by
    have : parse1 b = none := by
      cases hp : parse1 b with
      | none => rfl
      | some p => obtain ⟨x, k⟩ := p; have := parse1_le hp; omega
    simp [allF, this]
  | n + 1, 0, b, _, h => by
    have : parse1 b = none := by
      cases hp : parse1 b with
      | none => rfl
      | some p => obtain ⟨x, k⟩ := p; have := parse1_le hp; omega
    simp [allF, this]
  | n + 1, m + 1, b, h1, h2 => by
    simp only [allF]
    cases hp : parse1 b with
    | none => rfl
    | some p =>
      obtain ⟨x, k⟩ := p
      have := parse1_le hp
      have hd : (b.drop k).length = b.length - k := List.length_drop
      have e := allF_same n m (b.drop k) (by omega) (by omega)
      simp only [e]

/-- All frames of bytes, up to the first that is none, and how many bytes these have. -/
def allL (b : List UInt8) : List (List UInt8) × Nat := allF b.length b

theorem allL_none {b : List UInt8} (h : parse1 b = none) : allL b = ([], 0) := by
  unfold allL
  cases hb : b.length with
  | zero => rfl
  | succ n => simp [allF, h]

theorem allL_some {b x : List UInt8} {k : Nat} (h : parse1 b = some (x, k)) : allL b = (x :: (allL (b.drop k)).1, k + (allL (b.drop k)).2) := by
  have hk := parse1_le h
  unfold allL
  have hd : (b.drop k).length = b.length - k := List.length_drop
  obtain ⟨n, hn⟩ : ∃ n, b.length = n + 1 := ⟨b.length - 1, by omega⟩
  rw [hn]
  simp only [allF, h]
  rw [allF_same n (b.drop k).length (b.drop k) (by omega) (Nat.le_refl _)]

theorem take_p (b : List UInt8) (hl : b.length ≤ 10000000) (σ : Store) (R : AV → Store → Prop) (h1 : parse1 b = none → ∀ e : Int, e ≠ 0 → R (.tup [.val (.slice none 0 0), i64 0, i64 e]) σ)
    (h2 : ∀ x k, parse1 b = some (x, k) → R (.tup [bys x, i64 (k : Int), i64 0]) σ) : ACalls P 35 [bys b] σ R := by
  refine take_v b hl σ R (fun he => h1 (by unfold parse1; rw [if_neg (fun hc => he hc.1)]) _ he) (fun E hE hs => h1 (by unfold parse1; rw [hE]; rw [if_neg (fun hc => hs (by simpa using hc.2))]) _ (by omega)) (fun E hE hs => ?_)
  refine h2 _ _ ?_
  unfold parse1
  rw [hE, if_pos ⟨rfl, by simpa using hs⟩]; rfl

def outV : List (List UInt8) × Nat × Option Nat → AV
  | (_, _, none) => .val (.slice none 0 0)
  | (xs, _, some b) => .arr b 0 xs.length 1
def outS (σ : Store) : List (List UInt8) × Nat × Option Nat → Store
  | (_, _, none) => σ
  | (xs, _, some b) => σ.set b (.row (xs.map bys))

theorem all_v (b : List UInt8) (hl : b.length ≤ 10000000) (σ : Store) (R : AV → Store → Prop) (h : R (.tup [byss (allL b).1, i64 ((allL b).2 : Int)]) σ) : ACalls P 18 [bys b] σ R := by
  refine AInv.seen (AInv.of_body ok Try.func18 rfl (by decide) rfl ?_)
  conv => whnf
  refine AW.loop ok (ι := List (List UInt8) × Nat × Option Nat) (fun i => i.2.1 ≤ b.length ∧ (i.2.2 = none → i.1 = []) ∧ (∀ c, i.2.2 = some c → σ c = none) ∧ i.1.length ≤ i.2.1 ∧ allL b = (i.1 ++ (allL (b.drop i.2.1)).1, i.2.1 + (allL (b.drop i.2.1)).2))
    (fun i => [(5, i64 (i.2.1 : Int)), (4, outV i), (0, bys b)]) (fun i => outS σ i) (fun i => b.length - i.2.1) ([], 0, none) ⟨by dsimp only; omega, by simp, by simp, by simp, by simp⟩ (.cons rfl (.cons rfl (.cons rfl (.nil _)))) (.refl _) ?_
  rintro ⟨xs, n, ob⟩ ⟨hn, hno, hso, hxs, heq⟩
  dsimp only at hn hno hso hxs heq
  conv => whnf
  have hL : (b.map u8).length = b.length := List.length_map _
  refine ⟨by dsimp only; omega, by dsimp only; omega, by omega, ?_⟩
  conv => whnf
  have e1 : AV.sl 1 (((b.map u8).drop ((((xs, n, ob) : List (List UInt8) × Nat × Option Nat).2.1 : Nat) : Int).toNat).take ((((b.map u8).length : Nat) : Int).toNat - ((((xs, n, ob) : List (List UInt8) × Nat × Option Nat).2.1 : Nat) : Int).toNat)) = bys (b.drop n) := by
    rw [sl_part, Int.toNat_natCast, Int.toNat_natCast, hL, List.take_of_length_le (by simp)]
  rw [e1]
  have hdl : (b.drop n).length = b.length - n := List.length_drop
  refine take_p _ (by omega) _ _ (fun hp e he => ?_) (fun x k hp => ?_)
  · conv => whnf
    have e2 : (e != 0) = true := by simpa using he
    rw [e2]
    conv => whnf
    rw [allL_none hp, List.append_nil, Nat.add_zero] at heq
    rw [heq] at h
    cases ob with
    | none =>
      have := hno rfl
      subst this
      exact ⟨_, _, .tup1 (.nil (.refl _)), h⟩
    | some c =>
      refine ⟨_, _, .tup1 (Frz.sl (l := xs.map bys) (Store.get_set _ _ _) ((SubS.refl σ).set (hso c rfl) _) (hso c rfl) (by simp) (by intro u hu; obtain ⟨y, _, rfl⟩ := List.mem_map.1 hu; rfl) ?_), h⟩
      have : ∀ l : List (List UInt8), (l.map bys).flatMap AV.cells = l.map bys := by
        intro l
        induction l with
        | nil => rfl
        | cons y l ih => simp only [List.map_cons, List.flatMap_cons, ih]; rfl
      rw [this, List.drop_zero, List.take_of_length_le (by simp)]
  · have hk := parse1_le hp
    conv => whnf
    refine clone_v _ _ _ (by omega) ?_
    conv => whnf
    intro c hc
    conv => whnf
    refine ⟨_, Store.get_set _ _ _, Nat.le_refl 1, ?_⟩
    have e9 : IntKind.wrap .i64 (((((xs, n, ob) : List (List UInt8) × Nat × Option Nat).2.1 : Nat) : Int) + (k : Int)) = ((n + k : Nat) : Int) := by dsimp only; rw [wrap64 (by omega) (by omega)]; omega
    have heq2 : allL b = ((xs ++ [x]) ++ (allL (b.drop (n + k))).1, (n + k) + (allL (b.drop (n + k))).2) := by
      rw [heq, allL_some hp, List.drop_drop, List.append_assoc, Nat.add_assoc]; rfl
    cases ob with
    | none =>
      have hxs0 := hno rfl
      subst hxs0
      conv => whnf
      refine ⟨by show 1 * 24 ≤ 140737488355328; omega, by omega, fun h0 => absurd h0 (by omega), fun _ b' hb' => ?_⟩
      conv => whnf
      refine ⟨([] ++ [x], n + k, some b'), ⟨by dsimp only; omega, by simp, fun b'' e => by injection e with e; subst e; exact (Store.set_fresh hb').2, by simp; omega, heq2⟩, by dsimp only; omega, .cons (congrArg (fun x => some (i64 x)) e9) (.cons rfl (.cons rfl (.nil _))), ?_⟩
      exact ((SubS.refl σ).set hc _).set2 b' _
    | some d =>
      have hσ := hso d rfl
      have hc2 := Store.set_fresh hc
      conv => whnf
      refine ⟨_, by rw [Store.get_set_ne _ (Ne.symm hc2.1)]; exact Store.get_set _ _ _, rfl, by rw [List.length_map, Nat.mul_one], by show (xs.length + 1) * 24 ≤ 140737488355328; omega, by omega, fun b' hb' => ?_⟩
      conv => whnf
      have hsub : ∀ o, SubS ((((σ.set d (.row (xs.map bys))).set c o).del d)) σ := fun o => (((SubS.refl σ).set hσ _).set hc2.2 _).del hσ
      refine ⟨(xs ++ [x], n + k, some b'), ⟨by dsimp only; omega, by simp, fun b'' e => by injection e with e; subst e; exact (hsub _).none_ hb', by simp; omega, heq2⟩, by dsimp only; omega, .cons (congrArg (fun x => some (i64 x)) e9) (.cons (by show some (AV.arr b' 0 (xs.length + 1) 1) = some (AV.arr b' 0 (xs ++ [x]).length 1); rw [List.length_append]; rfl) (.cons rfl (.nil _))), ?_⟩
      show SubS (Store.set _ b' (.row (xs.map bys ++ [bys x]))) (σ.set b' (.row ((xs ++ [x]).map bys)))
      rw [List.map_append]; exact (hsub _).set2 b' _

end Go.Cr.Try

namespace Go.Cr.Try
open Go Go.Cr Go.Proofs

theorem Store.set_same {σ : Store} {b : Nat} {o : AObj} (h : σ b = some o) : σ.set b o = σ := by
  funext x
  simp only [Store.set]
  split
  · rename_i e; rw [e, h]
  · rfl

/-- A disk's own variable. -/
structure Hd where
  m1 : Nat
  m2 : Nat
  chg : AV
  room : Int
  down : Bool
  doomed : Bool
  left : Int

def Hd.row (h : Hd) : List AV := [.val (.map (some h.m1)), .val (.map (some h.m2)), h.chg, i64 h.room, .val (.bool h.down), .val (.bool h.doomed), i64 h.left]

/-- What can be done: the disk behind asking, and the error. -/
def readyH (h : Hd) : Hd × Int :=
  match h.down, h.doomed with
  | true, _ => (h, 40)
  | false, true => if h.left = 0 then ({ h with down := true }, 40) else ({ h with left := h.left - 1 }, 0)
  | false, false => (h, 0)

theorem ready_v (d : Nat) (h : Hd) (h0 : 0 ≤ h.left) (h1 : h.left ≤ 9223372036854775807) (σ : Store) (hd : σ d = some (.row h.row)) (R : AV → Store → Prop) (hR : R (i64 (readyH h).2) (σ.set d (.row (readyH h).1.row))) :
    ACalls P 50 [ptrA d] σ R := by
  obtain ⟨m1, m2, chg, room, down, doomed, left⟩ := h
  refine AInv.seen (AInv.of_body ok Try.func50 rfl (by decide) rfl ?_)
  conv => whnf
  refine ⟨_, hd, ?_⟩
  conv => whnf
  cases down with
  | true =>
    conv => whnf
    rw [show (readyH ⟨m1, m2, chg, room, true, doomed, left⟩) = (⟨m1, m2, chg, room, true, doomed, left⟩, 40) from rfl, Store.set_same hd] at hR
    exact seen hR
  | false =>
    conv => whnf
    refine ⟨_, hd, ?_⟩
    conv => whnf
    cases doomed with
    | false =>
      conv => whnf
      refine ⟨_, hd, ?_⟩
      conv => whnf
      rw [show (readyH ⟨m1, m2, chg, room, false, false, left⟩) = (⟨m1, m2, chg, room, false, false, left⟩, 0) from rfl, Store.set_same hd] at hR
      exact seen hR
    | true =>
      conv => whnf
      refine ⟨_, hd, ?_⟩
      conv => whnf
      refine bcase_intro (fun hb => ?_) (fun hb => ?_) <;> (try rw [hb]); conv => whnf
      · have hl : left = 0 := by simpa using hb
        refine ⟨_, hd, by show 0 + 4 + 1 ≤ 7; omega, ?_⟩
        conv => whnf
        rw [show (readyH ⟨m1, m2, chg, room, false, true, left⟩) = (⟨m1, m2, chg, room, true, true, left⟩, 40) from by unfold readyH; simp [hl]] at hR
        exact seen hR
      · have hl : left ≠ 0 := by simpa using hb
        conv => whnf
        refine ⟨_, hd, ?_⟩
        conv => whnf
        refine ⟨_, hd, ?_⟩
        conv => whnf
        dsimp only at h0 h1
        have e1 : IntKind.wrap .i64 (left - 1) = left - 1 := wrap64 (by omega) (by omega)
        rw [e1]
        refine ⟨_, hd, by show 0 + 6 + 1 ≤ 7; omega, ?_⟩
        conv => whnf
        rw [show (readyH ⟨m1, m2, chg, room, false, true, left⟩) = (⟨m1, m2, chg, room, false, true, left - 1⟩, 0) from by unfold readyH; simp [hl]] at hR
        exact seen hR

end Go.Cr.Try

namespace Go.Cr.Try
open Go Go.Cr Go.Proofs

theorem keyS : KeyOk P 9 (κ := ByteArray) Value.string okAll := keyOk_string (by kernel_rfl)

/-- A change, done to names. -/
def doL (l : List (ByteArray × Value)) (gone new : ByteArray) (f : Value) : List (ByteArray × Value) :=
  if new.toList == (⟨#[]⟩ : ByteArray).toList then mdel gone l else mput new f (mdel gone l)

theorem do_v (m : Nat) (es : Array MapEntry) (clock : Nat) (l : List (ByteArray × Value)) (gone new : ByteArray) (f : Value) (σ : Store) (hm : σ m = some (.raw (.map es clock))) (hl : MapIs Value.string es clock l) (R : AV → Store → Prop)
    (hR : ∀ a es' clock', MapIs Value.string es' clock' (doL l gone new f) → R a (σ.set m (.raw (.map es' clock')))) :
    ACalls P 15 [.val (.map (some m)), .agg [.val (.string gone), .val (.string new), .val f]] σ R := by
  refine AInv.seen (AInv.of_body ok Try.func15 rfl (by decide) rfl ?_)
  conv => whnf
  refine .inl ?_
  conv => whnf
  refine delete_rule ok keyS rfl rfl hm hl trivial (fun _ _ => trivial) fun es1 c1 h1 => ?_
  conv => whnf
  refine bcase_intro (fun hb => ?_) (fun hb => ?_) <;> (try rw [hb]); conv => whnf
  · refine update_rule ok keyS rfl rfl (Store.get_set _ _ _) h1 trivial (fun _ _ => trivial) fun es2 c2 h2 => ?_
    conv => whnf
    have e : (new.toList == (⟨#[]⟩ : ByteArray).toList) = false := by simpa using hb
    refine seen ?_
    rw [Store.set_set]
    refine hR _ _ _ ?_
    unfold doL
    rw [e]; exact h2
  · conv => whnf
    have e : (new.toList == (⟨#[]⟩ : ByteArray).toList) = true := by
      cases hx : (new.toList == (⟨#[]⟩ : ByteArray).toList) with
      | true => rfl
      | false => rw [hx] at hb; cases hb
    refine seen (hR _ _ _ ?_)
    unfold doL
    rw [e]; exact h1

end Go.Cr.Try

namespace Go.Cr.Try
open Go Go.Cr Go.Proofs

/-- The file that has a name. -/
def nget (k : ByteArray) : List (ByteArray × Nat) → Option Nat
  | [] => none
  | p :: l => if k = p.1 then some p.2 else nget k l
def encN (l : List (ByteArray × Nat)) : List (ByteArray × Value) := l.map fun p => (p.1, encP p.2)
theorem assoc_encN (k : ByteArray) : ∀ l : List (ByteArray × Nat), assoc k (encN l) = (nget k l).map encP
  | [] => rfl
  | p :: l => by
    simp only [encN, List.map_cons, assoc, nget]
    split
    · rfl
    · exact assoc_encN k l

theorem readyH_m1 (h : Hd) : (readyH h).1.m1 = h.m1 := by
  unfold readyH
  split
  · rfl
  · split <;> rfl
  · rfl

theorem find_v (d : Nat) (h : Hd) (h0 : 0 ≤ h.left) (h1 : h.left ≤ 9223372036854775807) (name : ByteArray) (l : List (ByteArray × Nat)) (es : Array MapEntry) (clock : Nat) (σ : Store) (hd : σ d = some (.row h.row))
    (hm : σ h.m1 = some (.raw (.map es clock))) (hl : MapIs Value.string es clock (encN l)) (R : AV → Store → Prop)
    (r1 : (readyH h).2 ≠ 0 → R (.tup [.val (.pointer none), i64 (readyH h).2]) (σ.set d (.row (readyH h).1.row)))
    (r2 : (readyH h).2 = 0 → nget name l = none → R (.tup [.val (.pointer none), i64 2]) (σ.set d (.row (readyH h).1.row)))
    (r3 : (readyH h).2 = 0 → ∀ f, nget name l = some f → R (.tup [ptrA f, i64 0]) (σ.set d (.row (readyH h).1.row))) :
    ACalls P 33 [ptrA d, .val (.string name)] σ R := by
  refine AInv.seen (AInv.of_body ok Try.func33 rfl (by decide) rfl ?_)
  conv => whnf
  refine ready_v d h h0 h1 σ hd _ ?_
  conv => whnf
  refine bcase_intro (fun hb => ?_) (fun hb => ?_) <;> (try rw [hb]); conv => whnf
  · exact seen (r1 (by simpa using hb))
  · have he : (readyH h).2 = 0 := by simpa using hb
    conv => whnf
    refine ⟨_, Store.get_set _ _ _, ?_⟩
    conv => whnf
    have hne : h.m1 ≠ d := fun e => by rw [e, hd] at hm; cases hm
    refine lookup_rule ok keyS rfl rfl rfl (m := (readyH h).1.m1) (k := name) (by rw [readyH_m1, Store.get_set_ne _ hne]; exact hm) hl trivial (fun _ _ => trivial) (fun v hv => ?_) (fun hv => ?_)
    · rw [assoc_encN] at hv
      obtain ⟨f, hf, rfl⟩ := Option.map_eq_some_iff.1 hv
      conv => whnf
      exact seen (r3 he f hf)
    · rw [assoc_encN] at hv
      conv => whnf
      exact seen (r2 he (Option.map_eq_none_iff.1 hv))

end Go.Cr.Try

namespace Go.Cr.Try
open Go Go.Cr Go.Proofs

def Hd.doom (h : Hd) (n : Int) : Hd := { h with doomed := true, left := n }

theorem doom_v (d : Nat) (h : Hd) (n : Int) (hn : 0 ≤ n) (σ : Store) (hd : σ d = some (.row h.row)) (R : AV → Store → Prop) (hR : R (i64 0) (σ.set d (.row (h.doom n).row))) : ACalls P 7 [ptrA d, i64 n] σ R := by
  refine AInv.seen (AInv.of_body ok Try.func7 rfl (by decide) rfl ?_)
  conv => whnf
  have e1 : decide (n < 0) = false := by simpa using hn
  rw [e1]
  conv => whnf
  refine ⟨_, hd, by show 0 + 5 + 1 ≤ 7; omega, ?_⟩
  conv => whnf
  refine ⟨_, Store.get_set _ _ _, by rw [putA_length]; show 0 + 6 + 1 ≤ 7; omega, ?_⟩
  conv => whnf
  rw [Store.set_set]
  exact seen hR

theorem new_v (room : Int) (σ : Store) (R : AV → Store → Prop)
    (hR : ∀ m1 m2 d, σ m1 = none → σ m2 = none → σ d = none → m1 ≠ m2 → m1 ≠ d → m2 ≠ d →
      R (ptrA d) (((σ.set m1 (.raw (.map #[] 0))).set m2 (.raw (.map #[] 0))).set d (.row (Hd.row ⟨m1, m2, .val (.slice none 0 0), if 0 > room then 0 else room, false, false, 0⟩)))) :
    ACalls P 5 [i64 room] σ R := by
  refine AInv.seen (AInv.of_body ok Try.func5 rfl (by decide) rfl ?_)
  conv => whnf
  intro m1 h1
  conv => whnf
  intro m2 h2
  conv => whnf
  refine .inr fun d h3 => ?_
  conv => whnf
  have k2 := Store.set_fresh h2
  have k3 := Store.set_fresh h3
  have k4 := Store.set_fresh k3.2
  exact seen (hR m1 m2 d h1 k2.2 k4.2 (Ne.symm k2.1) (Ne.symm k4.1) (Ne.symm k3.1))

end Go.Cr.Try

namespace Go.Cr.Try
open Go Go.Cr Go.Proofs

/-- A file's own variable. -/
def fileRow (c : List UInt8) (kept : Int) : List AV := [bys c, i64 kept]

theorem sync_v (d : Nat) (h : Hd) (h0 : 0 ≤ h.left) (h1 : h.left ≤ 9223372036854775807) (name : ByteArray) (l : List (ByteArray × Nat)) (es : Array MapEntry) (clock : Nat) (σ : Store) (hd : σ d = some (.row h.row))
    (hm : σ h.m1 = some (.raw (.map es clock))) (hl : MapIs Value.string es clock (encN l)) (R : AV → Store → Prop)
    (r1 : (readyH h).2 ≠ 0 → R (i64 (readyH h).2) (σ.set d (.row (readyH h).1.row)))
    (r2 : (readyH h).2 = 0 → nget name l = none → R (i64 2) (σ.set d (.row (readyH h).1.row)))
    (r3 : (readyH h).2 = 0 → ∀ f, nget name l = some f → ∃ c k, σ f = some (.row (fileRow c k)) ∧ R (i64 0) ((σ.set d (.row (readyH h).1.row)).set f (.row (fileRow c c.length)))) :
    ACalls P 30 [ptrA d, .val (.string name)] σ R := by
  refine AInv.seen (AInv.of_body ok Try.func30 rfl (by decide) rfl ?_)
  conv => whnf
  refine find_v d h h0 h1 name l es clock σ hd hm hl _ (fun he => ?_) (fun he hn => ?_) (fun he f hf => ?_)
  · conv => whnf
    have e1 : ((readyH h).2 != 0) = true := by simpa using he
    rw [e1]
    conv => whnf
    exact seen (r1 he)
  · conv => whnf
    exact seen (r2 he hn)
  · conv => whnf
    obtain ⟨c, k, hc, hR⟩ := r3 he f hf
    have hne : f ≠ d := fun e => by subst e; rw [hd] at hc; injection hc with hc; injection hc with hc; have := congrArg List.length hc; simp [Hd.row, fileRow] at this
    refine ⟨_, by rw [Store.get_set_ne _ hne]; exact hc, ?_⟩
    conv => whnf
    refine ⟨_, by rw [Store.get_set_ne _ hne]; exact hc, by show 0 + 1 + 1 ≤ 2; omega, ?_⟩
    conv => whnf
    have e2 : (c.map u8).length = c.length := List.length_map _
    refine seen ?_
    rw [e2]
    exact hR

theorem read_v (d : Nat) (h : Hd) (h0 : 0 ≤ h.left) (h1 : h.left ≤ 9223372036854775807) (name : ByteArray) (l : List (ByteArray × Nat)) (es : Array MapEntry) (clock : Nat) (σ : Store) (hd : σ d = some (.row h.row))
    (hm : σ h.m1 = some (.raw (.map es clock))) (hl : MapIs Value.string es clock (encN l)) (R : AV → Store → Prop)
    (r1 : (readyH h).2 ≠ 0 → R (.tup [.val (.slice none 0 0), i64 (readyH h).2]) (σ.set d (.row (readyH h).1.row)))
    (r2 : (readyH h).2 = 0 → nget name l = none → R (.tup [.val (.slice none 0 0), i64 2]) (σ.set d (.row (readyH h).1.row)))
    (r3 : (readyH h).2 = 0 → ∀ f, nget name l = some f → ∃ c k, c.length ≤ 140737488351232 ∧ σ f = some (.row (fileRow c k)) ∧ R (.tup [bys c, i64 0]) (σ.set d (.row (readyH h).1.row))) :
    ACalls P 17 [ptrA d, .val (.string name)] σ R := by
  refine AInv.seen (AInv.of_body ok Try.func17 rfl (by decide) rfl ?_)
  conv => whnf
  refine find_v d h h0 h1 name l es clock σ hd hm hl _ (fun he => ?_) (fun he hn => ?_) (fun he f hf => ?_)
  · conv => whnf
    have e1 : ((readyH h).2 != 0) = true := by simpa using he
    rw [e1]
    conv => whnf
    exact seen (r1 he)
  · conv => whnf
    exact seen (r2 he hn)
  · conv => whnf
    obtain ⟨c, k, hcl, hc, hR⟩ := r3 he f hf
    have hne : f ≠ d := fun e => by subst e; rw [hd] at hc; injection hc with hc; injection hc with hc; have := congrArg List.length hc; simp [Hd.row, fileRow] at this
    refine ⟨_, by rw [Store.get_set_ne _ hne]; exact hc, ?_⟩
    conv => whnf
    refine clone_v c _ _ hcl ?_
    conv => whnf
    exact seen hR

end Go.Cr.Try

namespace Go.Cr.Try
open Go Go.Cr Go.Proofs

theorem mapsClone_v (m : Nat) (es : Array MapEntry) (clock : Nat) (σ : Store) (hm : σ m = some (.raw (.map es clock))) (R : AV → Store → Prop)
    (hR : ∀ b, σ b = none → R (.val (.map (some b))) (σ.set b (.raw (.map es clock)))) : ACalls P 14 [.val (.map (some m))] σ R := by
  refine AInv.seen (AInv.of_body ok Try.func14 rfl (by decide) rfl ?_)
  conv => whnf
  refine mapsClone Try.func31 (by kernel_rfl) (by kernel_rfl) (by kernel_rfl) (by kernel_rfl) hm fun b hb => ?_
  conv => whnf
  refine assert_rule ok rfl (fun d hd ms e => by subst e; cases hd) ?_
  conv => whnf
  exact seen (hR b hb)

def Hd.sync (h : Hd) (m : Nat) : Hd := { h with m2 := m, chg := .val (.slice none 0 0) }

theorem syncNames_v (d : Nat) (h : Hd) (h0 : 0 ≤ h.left) (h1 : h.left ≤ 9223372036854775807) (es : Array MapEntry) (clock : Nat) (σ : Store) (hd : σ d = some (.row h.row)) (hm : σ h.m1 = some (.raw (.map es clock))) (R : AV → Store → Prop)
    (r1 : (readyH h).2 ≠ 0 → R (i64 (readyH h).2) (σ.set d (.row (readyH h).1.row)))
    (r2 : (readyH h).2 = 0 → ∀ b, σ b = none → b ≠ d → R (i64 0) ((σ.set b (.raw (.map es clock))).set d (.row ((readyH h).1.sync b).row))) :
    ACalls P 44 [ptrA d] σ R := by
  refine AInv.seen (AInv.of_body ok Try.func44 rfl (by decide) rfl ?_)
  conv => whnf
  refine ready_v d h h0 h1 σ hd _ ?_
  conv => whnf
  refine bcase_intro (fun hb => ?_) (fun hb => ?_) <;> (try rw [hb]); conv => whnf
  · exact seen (r1 (by simpa using hb))
  · have he : (readyH h).2 = 0 := by simpa using hb
    conv => whnf
    refine ⟨_, Store.get_set _ _ _, ?_⟩
    conv => whnf
    have hne : h.m1 ≠ d := fun e => by rw [e, hd] at hm; cases hm
    refine mapsClone_v (readyH h).1.m1 es clock _ (by rw [readyH_m1, Store.get_set_ne _ hne]; exact hm) _ fun b hb => ?_
    conv => whnf
    have hb2 := Store.set_fresh hb
    refine ⟨_, by rw [Store.get_set_ne _ (Ne.symm hb2.1)]; exact Store.get_set _ _ _, by show 0 + 1 + 1 ≤ 7; omega, ?_⟩
    conv => whnf
    refine ⟨_, Store.get_set _ _ _, by rw [putA_length]; show 0 + 2 + 1 ≤ 7; omega, ?_⟩
    conv => whnf
    refine seen ?_
    rw [Store.set_set, Store.set_comm _ (Ne.symm hb2.1), Store.set_set]
    have := r2 he b hb2.2 hb2.1
    exact this

end Go.Cr.Try

namespace Go.Cr.Try
open Go Go.Cr Go.Proofs

theorem disk_right (s : ByteArray) (σ : Store) (R : AV → Store → Prop) (h : R (.val (.bool (decide (1 ≤ s.size) && decide (s.size ≤ 32)))) σ) : ACalls P 54 [.val (.string s)] σ R := by
  refine AInv.of_body ok Try.func54 rfl (by decide) rfl ?_
  conv => whnf
  refine bcase_intro (fun hb => ?_) (fun hb => ?_) <;> (try rw [hb]); conv => whnf
  · have e1 : decide (1 ≤ s.size) = true := by simp at hb ⊢; omega
    have e2 : decide ((s.size : Int) ≤ 32) = decide (s.size ≤ 32) := by
      by_cases hs : s.size ≤ 32
      · rw [decide_eq_true hs]; simp; omega
      · rw [decide_eq_false hs]; simp; omega
    rw [e1, Bool.true_and] at h
    rw [e2]; exact h
  · have e1 : decide (1 ≤ s.size) = false := by
      have : ¬ ((s.size : Int) ≥ 1) := by simpa only [decide_eq_false_iff_not] using hb
      exact decide_eq_false (by omega)
    rw [e1, Bool.false_and] at h
    exact h

end Go.Cr.Try

namespace Go.Cr.Try
open Go Go.Cr Go.Proofs

theorem SubS.del2 {σ σ' : Store} (h : SubS σ σ') (b : Nat) : SubS (σ.del b) (σ'.del b) := fun x o hx => by
  simp only [Store.del] at hx ⊢
  split at hx
  · cases hx
  · rename_i hne; rw [if_neg hne]; exact h x o hx

/-- The changes of names that are not kept yet, as a row of one's own; none: nil. -/
structure Chg where
  gone : ByteArray
  new : ByteArray
  file : Value
def Chg.cells (c : Chg) : List AV := [.val (.string c.gone), .val (.string c.new), .val c.file]
def chgV (n : Nat) : Option Nat → AV
  | none => .val (.slice none 0 0)
  | some b => .arr b 0 n 3
/-- Where the changes lie. -/
def ChgAt (σ : Store) (l : List Chg) : Option Nat → Prop
  | none => l = []
  | some b => σ b = some (.row (l.flatMap Chg.cells))
theorem chg_len (l : List Chg) : (l.flatMap Chg.cells).length = l.length * 3 := by
  induction l with
  | nil => rfl
  | cons c l ih => simp only [List.flatMap_cons, List.length_append, ih, List.length_cons]; show 3 + _ = _; omega

def chgOff (σ : Store) : Option Nat → Store
  | none => σ
  | some b => σ.del b

theorem changed_v (d : Nat) (m1 m2 : Nat) (room : Int) (down doomed : Bool) (left : Int) (cl : List Chg) (ob : Option Nat) (c : Chg) (l : List (ByteArray × Value)) (es : Array MapEntry) (clock : Nat) (σ : Store)
    (hd : σ d = some (.row (Hd.row ⟨m1, m2, chgV cl.length ob, room, down, doomed, left⟩))) (hm : σ m1 = some (.raw (.map es clock))) (hl : MapIs Value.string es clock l) (hc : ChgAt σ cl ob) (hn : cl.length ≤ 1000000) (R : AV → Store → Prop)
    (hR : ∀ a es' clock' b, MapIs Value.string es' clock' (doL l c.gone c.new c.file) → chgOff σ ob b = none → b ≠ m1 → b ≠ d →
      R a ((((chgOff σ ob).set m1 (.raw (.map es' clock'))).set b (.row ((cl ++ [c]).flatMap Chg.cells))).set d (.row (Hd.row ⟨m1, m2, chgV (cl ++ [c]).length (some b), room, down, doomed, left⟩)))) :
    ACalls P 53 [ptrA d, .agg c.cells] σ R := by
  have hne : d ≠ m1 := fun e => by rw [← e, hd] at hm; cases hm
  refine AInv.seen (AInv.of_body ok Try.func53 rfl (by decide) rfl ?_)
  conv => whnf
  refine .inl ?_
  conv => whnf
  refine AW.draw ok mixed rfl rfl ?_
  conv => whnf
  refine ⟨_, hd, ?_⟩
  conv => whnf
  refine ⟨Nat.le_refl 3, ?_⟩
  conv => whnf
  refine do_v m1 es clock l c.gone c.new c.file _ hm hl _ fun a es1 c1 h1 => ?_
  conv => whnf
  refine AW.draw ok mixed rfl rfl ?_
  conv => whnf
  refine ⟨Nat.le_refl 3, ?_⟩
  conv => whnf
  have hd1 : (σ.set m1 (.raw (.map es1 c1))) d = some (.row (Hd.row ⟨m1, m2, chgV cl.length ob, room, down, doomed, left⟩)) := by rw [Store.get_set_ne _ hne]; exact hd
  refine ⟨?_, ?_⟩ <;> conv => whnf
  focus
    refine ⟨_, hd1, ?_⟩
    conv => whnf
    intro b hb
    conv => whnf
  rotate_left
  focus
    intro b hb
    conv => whnf
    have hbd3 : b ≠ d := fun x => by have := Store.set_fresh hb; rw [x, hd] at this; cases this.2
    refine ⟨_, by rw [Store.get_set_ne _ (Ne.symm hbd3)]; exact hd1, ?_⟩
    conv => whnf
  all_goals
    refine ⟨_, Store.get_set _ _ _, Nat.le_refl 3, ?_⟩
    cases ob with
    | none =>
      have hcl : cl = [] := hc
      subst hcl
      conv => whnf
      refine ⟨by show 1 * 40 ≤ 140737488355328; omega, by omega, fun h0 => absurd h0 (by omega), fun _ b' hb' => ?_⟩
      conv => whnf
      have k1 := Store.set_fresh hb'
      have k2 := Store.set_fresh k1.2
      have hbd : b' ≠ d := fun e => by rw [e, hd] at k2; cases k2.2
      have hbd2 : b ≠ d := fun e => by have := Store.set_fresh hb; rw [e, hd] at this; cases this.2
      refine ⟨_, by rw [Store.get_set_ne _ (Ne.symm hbd), Store.get_set_ne _ (Ne.symm hbd2)]; exact hd1, by show 0 + 2 + 1 ≤ 7; omega, ?_⟩
      conv => whnf
      exact ⟨_, _, .drop ((((SubS.refl (σ.set m1 (.raw (.map es1 c1)))).set hb _).set2 b' _).set2 d _), hR _ es1 c1 b' h1 (Store.set_fresh k1.2).2 k2.1 hbd⟩
    | some e =>
      have he : σ e = some (.row (cl.flatMap Chg.cells)) := hc
      have hb2 := Store.set_fresh hb
      have heb : e ≠ b := fun x => by rw [x] at he; rw [he] at hb2; cases hb2.2
      have hem : e ≠ m1 := fun x => by rw [x, hm] at he; cases he
      conv => whnf
      refine ⟨_, by rw [Store.get_set_ne _ heb, Store.get_set_ne _ hem]; exact he, rfl, chg_len cl, by show (cl.length + 1) * 40 ≤ 140737488355328; omega, by omega, fun b' hb' => ?_⟩
      conv => whnf
      have hed : e ≠ d := fun x => by
        rw [x, hd] at he; injection he with he; injection he with he
        have := congrArg List.length he
        rw [chg_len] at this
        have h7 : (Hd.row ⟨m1, m2, chgV cl.length (some d), room, down, doomed, left⟩).length = 7 := rfl
        subst x; omega
      have hsub : ∀ o, SubS (((σ.set m1 (.raw (.map es1 c1))).set b o).del e) ((σ.del e).set m1 (.raw (.map es1 c1))) := fun o => by
        rw [← Store.del_set_ne _ _ hem]; exact SubS.del2 ((SubS.refl (σ.set m1 (.raw (.map es1 c1)))).set hb _) e
      have k1 := Store.set_fresh ((hsub _).none_ hb')
      have hbd : b' ≠ d := fun x => by
        have := k1.2
        rw [x] at this
        simp only [Store.del, if_neg (Ne.symm hed)] at this
        rw [hd] at this; cases this
      have hbd2 : b ≠ d := fun x => by rw [x, hd] at hb2; cases hb2.2
      refine ⟨_, by rw [Store.get_set_ne _ (Ne.symm hbd)]; simp only [Store.del, if_neg (Ne.symm hed)]; rw [Store.get_set_ne _ (Ne.symm hbd2)]; exact hd1, by show 0 + 2 + 1 ≤ 7; omega, ?_⟩
      conv => whnf
      have hf := hR (.tup []) es1 c1 b' h1 k1.2 k1.1 hbd
      rw [show (cl ++ [c]).flatMap Chg.cells = cl.flatMap Chg.cells ++ c.cells by simp, List.length_append] at hf
      exact ⟨_, _, .drop (((hsub _).set2 b' _).set2 d _), hf⟩

end Go.Cr.Try

/-
  DERIVED: THE SHELF's CONTRACTS AT THIS DUMP, IN PLAIN WORDS (tools/lay-plain.mjs out of 'LayScr.lean', which tools/lay-shelf.mjs wrote): THE SAME DECLARATIONS UNDER THE SAME NAMES: 'import', 'namespace', 'open', 'def', 'theorem' AND NOTHING ELSE: no command of the shelf's: FOR A HAND-IN. Each laying: the table of numbers ('.._ren') and one theorem, a field a fact of the dump's own or the kernel's comparison; each contract: ONE APPLICATION.
-/
namespace Go.Proofs
open Go.Shelf
def Try.lays190_ren : Go.Shelf.Ren := ⟨fun | 190 => 32 | 125 => 49 | 258 => 48 | 128 => 66 | 129 => 67 | 302 => 57 | 303 => 58 | 304 => 59 | 305 => 60 | 306 => 61 | 307 => 62 | 308 => 63 | 309 => 64 | 310 => 65 | 333 => 72 | 329 => 73 | 330 => 74 | 334 => 75 | 335 => 76 | 336 => 77 | 344 => 78 | n => n, fun | 31 => 55 | 9 => 9 | 3 => 3 | 46 => 86 | 0 => 0 | 51 => 80 | 53 => 65 | 4 => 4 | 183 => 97 | 182 => 96 | 131 => 102 | 5 => 5 | 218 => 111 | 222 => 115 | 228 => 117 | 229 => 118 | n => n, fun | n => n⟩
theorem Try.lays190 : Go.Proofs.Lays.n190 Try.prog Try.lays190_ren := {
  mixed := by kernel_rfl
  f125 := Try.func49.trans (congrArg some (by kernel_rfl))
  f128 := Try.func66.trans (congrArg some (by kernel_rfl))
  f129 := Try.func67.trans (congrArg some (by kernel_rfl))
  f190 := Try.func32.trans (congrArg some (by kernel_rfl))
  f258 := Try.func48.trans (congrArg some (by kernel_rfl))
  f302 := Try.func57.trans (congrArg some (by kernel_rfl))
  f303 := Try.func58.trans (congrArg some (by kernel_rfl))
  f304 := Try.func59.trans (congrArg some (by kernel_rfl))
  f305 := Try.func60.trans (congrArg some (by kernel_rfl))
  f306 := Try.func61.trans (congrArg some (by kernel_rfl))
  f307 := Try.func62.trans (congrArg some (by kernel_rfl))
  f308 := Try.func63.trans (congrArg some (by kernel_rfl))
  f309 := Try.func64.trans (congrArg some (by kernel_rfl))
  f310 := Try.func65.trans (congrArg some (by kernel_rfl))
  f329 := Try.func73.trans (congrArg some (by kernel_rfl))
  f330 := Try.func74.trans (congrArg some (by kernel_rfl))
  f333 := Try.func72.trans (congrArg some (by kernel_rfl))
  f334 := Try.func75.trans (congrArg some (by kernel_rfl))
  f335 := Try.func76.trans (congrArg some (by kernel_rfl))
  f336 := Try.func77.trans (congrArg some (by kernel_rfl))
  f344 := Try.func78.trans (congrArg some (by kernel_rfl))
  t0 := Try.underlying0
  a0 := Try.isAgg0
  z0 := Try.sizeOf0
  v0 := Try.zeroValue0
  t3 := Try.underlying3
  a3 := Try.isAgg3
  z3 := Try.sizeOf3
  v3 := Try.zeroValue3
  t4 := Try.underlying4
  a4 := Try.isAgg4
  z4 := Try.sizeOf4
  v4 := Try.zeroValue4
  t5 := Try.underlying5
  a5 := Try.isAgg5
  z5 := Try.sizeOf5
  v5 := Try.zeroValue5
  t9 := Try.underlying9
  a9 := Try.isAgg9
  z9 := Try.sizeOf9
  v9 := Try.zeroValue9
  t31 := Try.underlying55
  a31 := Try.isAgg55
  z31 := Try.sizeOf55
  v31 := Try.zeroValue55
  t46 := Try.underlying86
  a46 := Try.isAgg86
  z46 := Try.sizeOf86
  v46 := Try.zeroValue86
  t51 := Try.underlying80
  a51 := Try.isAgg80
  z51 := Try.sizeOf80
  v51 := Try.zeroValue80
  t53 := Try.underlying65
  a53 := Try.isAgg65
  z53 := Try.sizeOf65
  v53 := Try.zeroValue65
  t131 := Try.underlying102
  a131 := Try.isAgg102
  z131 := Try.sizeOf102
  v131 := Try.zeroValue102
  t182 := Try.underlying96
  a182 := Try.isAgg96
  z182 := Try.sizeOf96
  v182 := Try.zeroValue96
  t183 := Try.underlying97
  a183 := Try.isAgg97
  z183 := Try.sizeOf97
  v183 := Try.zeroValue97
  t218 := Try.underlying111
  a218 := Try.isAgg111
  z218 := Try.sizeOf111
  v218 := Try.zeroValue111
  t222 := Try.underlying115
  a222 := Try.isAgg115
  z222 := Try.sizeOf115
  v222 := Try.zeroValue115
  t228 := Try.underlying117
  a228 := Try.isAgg117
  z228 := Try.sizeOf117
  v228 := Try.zeroValue117
  t229 := Try.underlying118
  a229 := Try.isAgg118
  z229 := Try.sizeOf118
  v229 := Try.zeroValue118 }
end Go.Proofs

namespace Go.Cr.Try
open Go Go.Cr Go.Proofs

/-! ### Names, changes of names, disks: plain -/

abbrev Nm := List (ByteArray × Nat)
def nput (k : ByteArray) (f : Nat) : Nm → Nm
  | [] => [(k, f)]
  | p :: l => if k = p.1 then (k, f) :: l else p :: nput k f l
def ndel (k : ByteArray) : Nm → Nm
  | [] => []
  | p :: l => if k = p.1 then l else p :: ndel k l
theorem encN_put (k : ByteArray) (f : Nat) : ∀ l : Nm, encN (nput k f l) = mput k (encP f) (encN l)
  | [] => rfl
  | p :: l => by
    have ih := encN_put k f l
    simp only [encN, List.map_cons, nput, mput] at ih ⊢
    split
    · simp
    · simp only [List.map_cons, ih]
theorem encN_del (k : ByteArray) : ∀ l : Nm, encN (ndel k l) = mdel k (encN l)
  | [] => rfl
  | p :: l => by
    have ih := encN_del k l
    simp only [encN, List.map_cons, ndel, mdel] at ih ⊢
    split
    · rfl
    · simp only [List.map_cons, ih]

def noName : ByteArray := ⟨#[]⟩
structure Chn where
  gone : ByteArray
  new : ByteArray
  file : Option Nat
def fileV : Option Nat → Value
  | none => .pointer none
  | some f => encP f
def Chn.low (c : Chn) : Chg := ⟨c.gone, c.new, fileV c.file⟩
def doN (l : Nm) (c : Chn) : Nm := if c.new = noName then ndel c.gone l else match c.file with
  | none => ndel c.gone l
  | some f => nput c.new f (ndel c.gone l)
/-- A name that is given is given to a file. -/
def Chn.ok (c : Chn) : Prop := c.new ≠ noName → c.file ≠ none
theorem toList_beq (a b : ByteArray) : (a.toList == b.toList) = decide (a = b) := by
  rw [Lib.toList_data, Lib.toList_data]
  by_cases h : a = b
  · subst h; simp
  · rw [decide_eq_false h]
    cases hb : (a.data.toList == b.data.toList) with
    | false => rfl
    | true => exact absurd (by cases a; cases b; simpa using hb) h
theorem doL_enc (l : Nm) (c : Chn) (hc : c.ok) : doL (encN l) c.low.gone c.low.new c.low.file = encN (doN l c) := by
  unfold doL doN Chn.low
  rw [show (⟨#[]⟩ : ByteArray) = noName from rfl, toList_beq]
  by_cases h : c.new = noName
  · simp [h, encN_del]
  · obtain ⟨f, hf⟩ := Option.ne_none_iff_exists'.1 (hc h)
    simp [h, hf, encN_put, encN_del, fileV]

structure Dk where
  now : Nm
  kept : Nm
  chg : List Chn
  room : Int
  down : Bool
  doomed : Bool
  left : Int
  fl : Nat → Option (List UInt8 × Int)

def Dk.rdy (D : Dk) : Dk × Int :=
  match D.down, D.doomed with
  | true, _ => (D, 40)
  | false, true => if D.left = 0 then ({ D with down := true }, 40) else ({ D with left := D.left - 1 }, 0)
  | false, false => (D, 0)

def Dk.setf (D : Dk) (f : Nat) (c : List UInt8) (k : Int) : Dk := { D with fl := fun x => if x = f then some (c, k) else D.fl x }
def Dk.len (D : Dk) (f : Nat) : Nat := match D.fl f with
  | some (c, _) => c.length
  | none => 0
def Dk.bytes (D : Dk) (f : Nat) : List UInt8 := match D.fl f with
  | some (c, _) => c
  | none => []
def Dk.kp (D : Dk) (f : Nat) : Int := match D.fl f with
  | some (_, k) => k
  | none => 0

structure Dk.Ok (D : Dk) : Prop where
  l0 : 0 ≤ D.left
  l1 : D.left ≤ 9223372036854775807
  r0 : 0 ≤ D.room
  r1 : D.room ≤ 9223372036854775807
  now : ∀ p ∈ D.now, D.fl p.2 ≠ none
  kept : ∀ p ∈ D.kept, D.fl p.2 ≠ none
  chg : ∀ c ∈ D.chg, c.new ≠ noName → ∃ f, c.file = some f ∧ D.fl f ≠ none
  fl : ∀ f c k, D.fl f = some (c, k) → 0 ≤ k ∧ k ≤ c.length ∧ c.length ≤ 10000000
  n1 : D.now.length ≤ 1000000
  n2 : D.kept.length ≤ 1000000
  n3 : D.chg.length ≤ 1000000

/-! ### A disk in the store -/

def Dk.hd (D : Dk) (m1 m2 : Nat) (ob : Option Nat) : Hd := ⟨m1, m2, chgV (D.chg.map Chn.low).length ob, D.room, D.down, D.doomed, D.left⟩

theorem Dk.rdy_hd (D : Dk) (m1 m2 : Nat) (ob : Option Nat) : readyH (D.hd m1 m2 ob) = (D.rdy.1.hd m1 m2 ob, D.rdy.2) := by
  obtain ⟨now, kept, chg, room, down, doomed, left, fl⟩ := D
  cases down <;> cases doomed <;> simp only [readyH, Dk.rdy, Dk.hd]
  by_cases h : left = 0 <;> simp [h]

theorem Dk.rdy_same (D : Dk) : D.rdy.1.now = D.now ∧ D.rdy.1.kept = D.kept ∧ D.rdy.1.chg = D.chg ∧ D.rdy.1.room = D.room ∧ D.rdy.1.fl = D.fl := by
  obtain ⟨now, kept, chg, room, down, doomed, left, fl⟩ := D
  cases down <;> cases doomed <;> simp only [Dk.rdy]
  · simp
  · split <;> simp
  · simp
  · simp

theorem Dk.Ok.rdy {D : Dk} (h : D.Ok) : D.rdy.1.Ok := by
  obtain ⟨now, kept, chg, room, down, doomed, left, fl⟩ := D
  obtain ⟨l0, l1, r0, r1, h1, h2, h3, h4, h5, h6, h7⟩ := h
  dsimp only at l0 l1
  cases down <;> cases doomed <;> simp only [Dk.rdy]
  · exact ⟨l0, l1, r0, r1, h1, h2, h3, h4, h5, h6, h7⟩
  · split
    · exact ⟨l0, l1, r0, r1, h1, h2, h3, h4, h5, h6, h7⟩
    · exact ⟨by dsimp only; omega, by dsimp only; omega, r0, r1, h1, h2, h3, h4, h5, h6, h7⟩
  · exact ⟨l0, l1, r0, r1, h1, h2, h3, h4, h5, h6, h7⟩
  · exact ⟨l0, l1, r0, r1, h1, h2, h3, h4, h5, h6, h7⟩

structure DiskIn (σ : Store) (F : Nat → Prop) (d : Nat) (D : Dk) (m1 m2 : Nat) (ob : Option Nat) (es1 : Array MapEntry) (c1 : Nat) (es2 : Array MapEntry) (c2 : Nat) : Prop where
  hd : σ d = some (.row (D.hd m1 m2 ob).row)
  h1 : σ m1 = some (.raw (.map es1 c1))
  l1 : MapIs Value.string es1 c1 (encN D.now)
  h2 : σ m2 = some (.raw (.map es2 c2))
  l2 : MapIs Value.string es2 c2 (encN D.kept)
  ne : m1 ≠ m2
  hc : ChgAt σ (D.chg.map Chn.low) ob
  fl : ∀ f c k, D.fl f = some (c, k) → σ f = some (.row (fileRow c k))
  fd : F d
  f1 : F m1
  f2 : F m2
  fc : ∀ b, ob = some b → F b
  ff : ∀ f, D.fl f ≠ none → F f
  own : ∀ b, F b → σ b ≠ none

/-- At d there is the disk D; F: the blocks that are its own. -/
def DiskAt (σ : Store) (F : Nat → Prop) (d : Nat) (D : Dk) : Prop := ∃ m1 m2 ob es1 c1 es2 c2, DiskIn σ F d D m1 m2 ob es1 c1 es2 c2

/-- What was others' stays as it was, and stays others'. -/
def Keeps (σ : Store) (F : Nat → Prop) (σ' : Store) (F' : Nat → Prop) : Prop := ∀ b o, σ b = some o → ¬ F b → σ' b = some o ∧ ¬ F' b

theorem Keeps.refl (σ : Store) (F : Nat → Prop) : Keeps σ F σ F := fun _ _ h hn => ⟨h, hn⟩
theorem Keeps.trans {σ σ₁ σ₂ : Store} {F F₁ F₂ : Nat → Prop} (h : Keeps σ F σ₁ F₁) (k : Keeps σ₁ F₁ σ₂ F₂) : Keeps σ F σ₂ F₂ := fun b o hb hn => k b o (h b o hb hn).1 (h b o hb hn).2

/-- Another store, in which the disk's own blocks are as they were. -/
theorem DiskIn.frame {σ σ' : Store} {F : Nat → Prop} {d : Nat} {D : Dk} {m1 m2 : Nat} {ob : Option Nat} {es1 es2 : Array MapEntry} {c1 c2 : Nat} (h : DiskIn σ F d D m1 m2 ob es1 c1 es2 c2) (hF : ∀ b, F b → σ' b = σ b) :
    DiskIn σ' F d D m1 m2 ob es1 c1 es2 c2 where
  hd := (hF d h.fd).trans h.hd
  h1 := (hF _ h.f1).trans h.h1
  l1 := h.l1
  h2 := (hF _ h.f2).trans h.h2
  l2 := h.l2
  ne := h.ne
  hc := by
    have := h.hc
    cases ob with
    | none => exact this
    | some b => exact (hF b (h.fc b rfl)).trans this
  fl f c k hf := (hF f (h.ff f (by rw [hf]; simp))).trans (h.fl f c k hf)
  fd := h.fd
  f1 := h.f1
  f2 := h.f2
  fc := h.fc
  ff := h.ff
  own b hb := by rw [hF b hb]; exact h.own b hb

theorem DiskAt.frame {σ σ' : Store} {F : Nat → Prop} {d : Nat} {D : Dk} (h : DiskAt σ F d D) (hF : ∀ b, F b → σ' b = σ b) : DiskAt σ' F d D := by
  obtain ⟨m1, m2, ob, es1, c1, es2, c2, h⟩ := h
  exact ⟨m1, m2, ob, es1, c1, es2, c2, h.frame hF⟩

theorem DiskAt.own {σ : Store} {F : Nat → Prop} {d : Nat} {D : Dk} (h : DiskAt σ F d D) {b : Nat} (hb : F b) : σ b ≠ none := by
  obtain ⟨m1, m2, ob, es1, c1, es2, c2, h⟩ := h
  exact h.own b hb
theorem DiskAt.not {σ : Store} {F : Nat → Prop} {d : Nat} {D : Dk} (h : DiskAt σ F d D) {b : Nat} (hb : σ b = none) : ¬ F b := fun hf => h.own hf hb
theorem DiskAt.fd {σ : Store} {F : Nat → Prop} {d : Nat} {D : Dk} (h : DiskAt σ F d D) : F d := by
  obtain ⟨m1, m2, ob, es1, c1, es2, c2, h⟩ := h
  exact h.fd

/-- A block of others' is written, or made. -/
theorem DiskAt.set {σ : Store} {F : Nat → Prop} {d : Nat} {D : Dk} (h : DiskAt σ F d D) {b : Nat} (hb : ¬ F b) (o : AObj) : DiskAt (σ.set b o) F d D :=
  h.frame fun x hx => Store.get_set_ne _ (fun e : x = b => hb (e ▸ hx)) _
theorem DiskAt.new {σ : Store} {F : Nat → Prop} {d : Nat} {D : Dk} (h : DiskAt σ F d D) {b : Nat} (hb : σ b = none) (o : AObj) : DiskAt (σ.set b o) F d D := h.set (h.not hb) o
theorem DiskAt.del {σ : Store} {F : Nat → Prop} {d : Nat} {D : Dk} (h : DiskAt σ F d D) {b : Nat} (hb : ¬ F b) : DiskAt (σ.del b) F d D :=
  h.frame fun x hx => Store.del_ne _ (fun e : x = b => hb (e ▸ hx))

/-! ### Apart -/

section
variable {σ : Store} {F : Nat → Prop} {d : Nat} {D : Dk} {m1 m2 : Nat} {ob : Option Nat} {es1 es2 : Array MapEntry} {c1 c2 : Nat}

theorem DiskIn.d_m1 (h : DiskIn σ F d D m1 m2 ob es1 c1 es2 c2) : d ≠ m1 := fun e => by have := h.h1; rw [← e, h.hd] at this; cases this
theorem DiskIn.d_m2 (h : DiskIn σ F d D m1 m2 ob es1 c1 es2 c2) : d ≠ m2 := fun e => by have := h.h2; rw [← e, h.hd] at this; cases this
theorem DiskIn.f_d (h : DiskIn σ F d D m1 m2 ob es1 c1 es2 c2) {f : Nat} (hf : D.fl f ≠ none) : f ≠ d := fun e => by
  obtain ⟨⟨c, k⟩, hc⟩ := Option.ne_none_iff_exists'.1 hf
  have := h.fl f c k hc
  rw [e, h.hd] at this; injection this with this; injection this with this
  have := congrArg List.length this; simp [Hd.row, fileRow] at this
theorem DiskIn.f_m1 (h : DiskIn σ F d D m1 m2 ob es1 c1 es2 c2) {f : Nat} (hf : D.fl f ≠ none) : f ≠ m1 := fun e => by
  obtain ⟨⟨c, k⟩, hc⟩ := Option.ne_none_iff_exists'.1 hf
  have := h.fl f c k hc
  rw [e, h.h1] at this; cases this
theorem DiskIn.f_m2 (h : DiskIn σ F d D m1 m2 ob es1 c1 es2 c2) {f : Nat} (hf : D.fl f ≠ none) : f ≠ m2 := fun e => by
  obtain ⟨⟨c, k⟩, hc⟩ := Option.ne_none_iff_exists'.1 hf
  have := h.fl f c k hc
  rw [e, h.h2] at this; cases this
theorem DiskIn.c_d (h : DiskIn σ F d D m1 m2 ob es1 c1 es2 c2) {b : Nat} (hb : ob = some b) : b ≠ d := fun e => by
  subst hb
  have hc : σ b = some (.row ((D.chg.map Chn.low).flatMap Chg.cells)) := h.hc
  rw [e, h.hd] at hc; injection hc with hc; injection hc with hc
  have := congrArg List.length hc
  rw [chg_len] at this
  have h7 : (D.hd m1 m2 (some b)).row.length = 7 := rfl
  omega
theorem DiskIn.c_m1 (h : DiskIn σ F d D m1 m2 ob es1 c1 es2 c2) {b : Nat} (hb : ob = some b) : b ≠ m1 := fun e => by
  subst hb
  have hc : σ b = some (.row ((D.chg.map Chn.low).flatMap Chg.cells)) := h.hc
  rw [e, h.h1] at hc; cases hc
theorem DiskIn.c_m2 (h : DiskIn σ F d D m1 m2 ob es1 c1 es2 c2) {b : Nat} (hb : ob = some b) : b ≠ m2 := fun e => by
  subst hb
  have hc : σ b = some (.row ((D.chg.map Chn.low).flatMap Chg.cells)) := h.hc
  rw [e, h.h2] at hc; cases hc
theorem DiskIn.c_f (h : DiskIn σ F d D m1 m2 ob es1 c1 es2 c2) {b f : Nat} (hb : ob = some b) (hf : D.fl f ≠ none) : b ≠ f := fun e => by
  subst hb
  have hc : σ b = some (.row ((D.chg.map Chn.low).flatMap Chg.cells)) := h.hc
  obtain ⟨⟨c, k⟩, hk⟩ := Option.ne_none_iff_exists'.1 hf
  rw [e, h.fl f c k hk] at hc; injection hc with hc; injection hc with hc
  have := congrArg List.length hc
  rw [chg_len] at this
  have h2 : (fileRow c k).length = 2 := rfl
  omega

end

end Go.Cr.Try

namespace Go.Cr.Try
open Go Go.Cr Go.Proofs

/-! ### How many bytes there are -/

def addN (f : Nat) (l : List Nat) : List Nat := if f ∈ l then l else f :: l
theorem mem_addN (f x : Nat) (l : List Nat) : x ∈ addN f l ↔ x = f ∨ x ∈ l := by
  unfold addN; split
  · rename_i h; constructor
    · exact .inr
    · rintro (rfl | h')
      · exact h
      · exact h'
  · simp
theorem nodup_addN {f : Nat} {l : List Nat} (h : l.Nodup) : (addN f l).Nodup := by
  unfold addN; split
  · exact h
  · rename_i hf; exact List.nodup_cons.2 ⟨hf, h⟩
def setN : List Nat → List Nat
  | [] => []
  | f :: l => addN f (setN l)
theorem mem_setN (x : Nat) : ∀ l : List Nat, x ∈ setN l ↔ x ∈ l
  | [] => Iff.rfl
  | f :: l => by simp [setN, mem_addN, mem_setN x l]
theorem nodup_setN : ∀ l : List Nat, (setN l).Nodup
  | [] => List.nodup_nil
  | _ :: l => nodup_addN (nodup_setN l)

/-- The file of a change that gives one a name. -/
def Chn.gives (c : Chn) : Option Nat := if c.new = noName then none else c.file
/-- The files that there are: kept names', and those of changes. -/
def Dk.files (D : Dk) : List Nat := D.kept.map (·.2) ++ D.chg.filterMap Chn.gives
def Dk.used (D : Dk) : Nat := ((setN D.files).map D.len).sum

theorem used_any (D : Dk) {l : List Nat} (hn : l.Nodup) (hm : ∀ x, x ∈ l ↔ x ∈ D.files) : (l.map D.len).sum = D.used :=
  List.Perm.sum_nat (((List.perm_ext_iff_of_nodup hn (nodup_setN _)).2 fun x => by rw [hm, mem_setN]).map _)

theorem sum_le {l : List Nat} {n : Nat} (h : ∀ x ∈ l, x ≤ n) : l.sum ≤ l.length * n := by
  induction l with
  | nil => simp
  | cons a l ih =>
    have h1 := h a List.mem_cons_self
    have h2 := ih fun x hx => h x (List.mem_cons_of_mem _ hx)
    simp only [List.sum_cons, List.length_cons, Nat.add_mul]; omega

theorem setN_length (l : List Nat) : (setN l).length ≤ l.length := by
  induction l with
  | nil => simp [setN]
  | cons f l ih => simp only [setN, addN]; split <;> simp only [List.length_cons] <;> omega

theorem Dk.Ok.len_le {D : Dk} (h : D.Ok) (f : Nat) : D.len f ≤ 10000000 := by
  unfold Dk.len
  split
  · rename_i c k hc; exact (h.fl f c k hc).2.2
  · omega

theorem Dk.Ok.files_le {D : Dk} (h : D.Ok) : D.files.length ≤ 2000000 := by
  have h1 := h.n2
  have h2 := h.n3
  have h3 := List.length_filterMap_le Chn.gives D.chg
  simp only [Dk.files, List.length_append, List.length_map]; omega

theorem Dk.Ok.sum_small {D : Dk} (h : D.Ok) (l : List Nat) (hl : l.length ≤ 2000000) : (l.map D.len).sum ≤ 20000000000000 := by
  have := sum_le (l := l.map D.len) (n := 10000000) (fun x hx => by obtain ⟨f, _, rfl⟩ := List.mem_map.1 hx; exact h.len_le f)
  rw [List.length_map] at this
  have : l.length * 10000000 ≤ 2000000 * 10000000 := Nat.mul_le_mul_right _ hl
  omega

theorem Dk.Ok.used_le {D : Dk} (h : D.Ok) : D.used ≤ 20000000000000 :=
  h.sum_small _ (Nat.le_trans (setN_length _) h.files_le)

theorem keyP : KeyOk P 51 (κ := Nat) encP okP := by
  obtain ⟨_, ⟨i, h1, h2, _⟩, _⟩ := ok 58 _ rfl
  exact keyOk_ptr (by kernel_rfl) h1 (by rw [h2]; decide)

end Go.Cr.Try

namespace Go.Cr.Try
open Go Go.Cr Go.Proofs

theorem nodup_lt_length : ∀ (n : Nat) (l : List Nat), l.Nodup → (∀ x ∈ l, x < n) → l.length ≤ n
  | 0, l, _, h => by
    cases l with
    | nil => simp
    | cons a l => have := h a List.mem_cons_self; omega
  | n + 1, l, hn, h => by
    by_cases hm : n ∈ l
    · have h1 := nodup_lt_length n (l.erase n) (hn.erase n) (fun x hx => by
        have h2 := (List.Nodup.mem_erase_iff hn).1 hx
        have := h x h2.2; omega)
      rw [List.length_erase_of_mem hm] at h1; omega
    · have h1 := nodup_lt_length n l hn (fun x hx => by
        have := h x hx
        have hne : x ≠ n := fun e => hm (e ▸ hx)
        omega)
      omega

theorem IterIs.len {es : Array MapEntry} {done : List Nat} {seen : Array Nat} (h : IterIs es done seen) : done.length ≤ es.size := nodup_lt_length _ _ h.nodup h.lt

theorem IterIs.all {es : Array MapEntry} {done : List Nat} {seen : Array Nat} (h : IterIs es done seen) (ha : ∀ j, j < es.size → j ∈ done) : done.Perm (List.range es.size) :=
  (List.perm_ext_iff_of_nodup h.nodup List.nodup_range).2 fun x => by
    rw [List.mem_range]; exact ⟨h.lt x, ha x⟩

/-- How many bytes a file has of a list of files. -/
def Dk.at (D : Dk) (ids : List Nat) (j : Nat) : Nat := match ids[j]? with
  | some f => D.len f
  | none => 0
theorem range_at (D : Dk) (ids : List Nat) : (List.range ids.length).map (D.at ids) = ids.map D.len := by
  apply List.ext_getElem?
  intro i
  by_cases hi : i < ids.length
  · simp [hi, Dk.at]
  · simp [hi]

/-- The files noted, as entries of a map. -/
def encB (ids : List Nat) : List (Nat × Value) := ids.map fun f => (f, .bool true)
def putN (f : Nat) (ids : List Nat) : List Nat := if f ∈ ids then ids else ids ++ [f]
theorem mput_same {κ : Type} [DecidableEq κ] (k : κ) (v : Value) : ∀ l : List (κ × Value), (k, v) ∈ l → (l.map (·.1)).Nodup → mput k v l = l
  | [], h, _ => by cases h
  | p :: l, h, hn => by
    simp only [mput]
    split
    · rename_i e
      subst e
      rcases List.mem_cons.1 h with h | h
      · rw [← h]
      · simp only [List.map_cons, List.nodup_cons] at hn
        exact absurd (List.mem_map_of_mem h) hn.1
    · rename_i e
      rcases List.mem_cons.1 h with h | h
      · rw [← h] at e; exact absurd rfl e
      · simp only [List.map_cons, List.nodup_cons] at hn
        rw [mput_same k v l h hn.2]
theorem mput_new {κ : Type} [DecidableEq κ] (k : κ) (v : Value) : ∀ l : List (κ × Value), (∀ p ∈ l, p.1 ≠ k) → mput k v l = l ++ [(k, v)]
  | [], _ => rfl
  | p :: l, h => by
    simp only [mput]
    rw [if_neg (fun e => h p List.mem_cons_self e.symm), mput_new k v l fun q hq => h q (List.mem_cons_of_mem _ hq)]; rfl
theorem encB_put (f : Nat) (ids : List Nat) (h : ids.Nodup) : mput f (.bool true) (encB ids) = encB (putN f ids) := by
  unfold putN
  split
  · rename_i hf
    refine mput_same _ _ _ (List.mem_map.2 ⟨f, hf, rfl⟩) ?_
    simpa [encB, List.map_map, Function.comp_def] using h
  · rename_i hf
    rw [mput_new _ _ _ (fun p hp => by
      obtain ⟨x, hx, rfl⟩ := List.mem_map.1 hp
      exact fun e => hf (e ▸ hx))]
    simp [encB]
theorem mem_putN (f x : Nat) (ids : List Nat) : x ∈ putN f ids ↔ x = f ∨ x ∈ ids := by
  unfold putN; split
  · rename_i h; constructor
    · exact .inr
    · rintro (rfl | h')
      · exact h
      · exact h'
  · simp [or_comm]
theorem nodup_putN {f : Nat} {ids : List Nat} (h : ids.Nodup) : (putN f ids).Nodup := by
  unfold putN; split
  · exact h
  · rename_i hf
    rw [List.nodup_append]
    exact ⟨h, by simp, fun a ha b hb => by simp at hb; subst hb; exact fun e => hf (e ▸ ha)⟩

theorem chg_at (l : List Chg) {i : Nat} (h : i < l.length) : ((l.flatMap Chg.cells).drop (i * 3)).take 3 = l[i].cells := by
  induction l generalizing i with
  | nil => simp at h
  | cons c l ih =>
    cases i with
    | zero => simp [Chg.cells]
    | succ i =>
      have h' : i < l.length := by simpa using h
      have e : (i + 1) * 3 = c.cells.length + i * 3 := by show _ = 3 + _; omega
      rw [List.flatMap_cons, e, List.drop_append, List.drop_eq_nil_of_le (by omega), List.nil_append]
      rw [show c.cells.length + i * 3 - c.cells.length = i * 3 by omega, ih h']; rfl

set_option maxRecDepth 10000 in
theorem used_v {F : Nat → Prop} {d : Nat} {D : Dk} {σ : Store} (hD : DiskAt σ F d D) (hok : D.Ok) (R : AV → Store → Prop) (hR : R (i64 (D.used : Int)) σ) : ACalls P 47 [ptrA d] σ R := by
  obtain ⟨m1, m2, ob, es1, c1, es2, c2, h⟩ := hD
  refine AInv.seen (AInv.of_body ok Try.func47 rfl (by decide) rfl ?_)
  conv => whnf
  intro m hm
  conv => whnf
  have hmd : d ≠ m := Store.fresh_ne hm h.hd
  have hm2 : m2 ≠ m := Store.fresh_ne hm h.h2
  refine ⟨_, by rw [Store.get_set_ne _ hmd]; exact h.hd, ?_⟩
  conv => whnf
  refine range_rule ok rfl rfl (m := m2) (by rw [Store.get_set_ne _ hm2]; exact h.h2) fun r hr => ?_
  conv => whnf
  have hr2 := Store.set_fresh hr
  have hes2 : es2.size = D.kept.length := by rw [h.l2.size]; simp [encN]
  have hrm2 : m2 ≠ r := Store.fresh_ne hr2.2 h.h2
  have okf : ∀ (σ' : Store) f, D.fl f ≠ none → σ' f = σ f → okP σ' f := fun σ' f hf e => by
    obtain ⟨⟨c, k⟩, hc⟩ := Option.ne_none_iff_exists'.1 hf
    exact ⟨_, _, e.trans (h.fl f c k hc)⟩
  have fne : ∀ {b}, σ b = none → ∀ f, D.fl f ≠ none → f ≠ b := fun hb f hf e => by
    obtain ⟨⟨c, k⟩, hc⟩ := Option.ne_none_iff_exists'.1 hf
    have := h.fl f c k hc
    rw [e, hb] at this; cases this
  refine AW.loop ok (ι := List Nat × List Nat × Array MapEntry × Nat × Array Nat)
    (fun i => i.2.1.Nodup ∧ MapIs encP i.2.2.1 i.2.2.2.1 (encB i.2.1) ∧ IterIs es2 i.1 i.2.2.2.2 ∧ ∀ x, x ∈ i.2.1 ↔ ∃ j ∈ i.1, ∃ k, D.kept[j]? = some (k, x))
    (fun i => [(17, ptrA r), (3, .val (.map (some m))), (0, ptrA d)])
    (fun i => (σ.set m (.raw (.map i.2.2.1 i.2.2.2.1))).set r (.raw (.mapIter (some m2) c2 i.2.2.2.2 c2)))
    (fun i => D.kept.length - i.1.length) ([], [], #[], 0, #[]) ⟨List.nodup_nil, .empty _, .empty _, by simp⟩ (.cons rfl (.cons rfl (.cons rfl (.nil _)))) (.refl _) ?_
  rintro ⟨done, ids, es, ck, seen⟩ ⟨hnd, hmap, hit, hmem⟩
  dsimp only at hnd hmap hit hmem
  conv => whnf
  refine next_rule (m := m2) (r := r) (Store.get_set _ _ _) (by rw [Store.get_set_ne _ hrm2, Store.get_set_ne _ hm2]; exact h.h2) h.l2 hit (fun hall => ?_) (fun j p seen' hp hj hit' => ?_)
  · conv => whnf
    have hids : ∀ x, x ∈ ids ↔ x ∈ D.kept.map (·.2) := fun x => by
      rw [hmem, List.mem_map]
      constructor
      · rintro ⟨j, _, k, hk⟩; exact ⟨_, List.mem_of_getElem? hk, rfl⟩
      · rintro ⟨q, hq, rfl⟩
        obtain ⟨j, hj, rfl⟩ := List.mem_iff_getElem.1 hq
        exact ⟨j, hall j (by simpa [encN] using hj), _, List.getElem?_eq_getElem hj⟩
    refine ⟨_, by rw [Store.get_set_ne _ (Store.fresh_ne hr2.2 h.hd), Store.get_set_ne _ hmd]; exact h.hd, ?_⟩
    conv => whnf
    have okm : ∀ {es' ck'} x, D.fl x ≠ none → okP (σ.set m (.raw (.map es' ck'))) x := fun x hx => okf _ x hx (Store.get_set_ne _ (fne hm x hx) _)
    have hsub1 : SubS ((σ.set m (.raw (.map es ck))).set r (.raw (.mapIter (some m2) c2 seen c2))) (σ.set m (.raw (.map es ck))) := SubS.set (.refl _) (by rw [Store.get_set_ne _ hr2.1]; exact hr2.2) _
    cases ob
    focus
      have hc0 : D.chg = [] := by simpa [ChgAt] using h.hc
      conv => whnf
      refine AW.loop ok (ι := Unit) (fun _ => True) (fun _ => [(29, i64 0), (28, i64 ((0 : Nat) : Int)), (3, .val (.map (some m))), (0, ptrA d)]) (fun _ => σ.set m (.raw (.map es ck))) (fun _ => 0) () trivial
        (.cons rfl (.cons rfl (.cons rfl (.cons rfl (.nil _))))) hsub1 ?_
      rintro _ _
      conv => whnf
      have hids2 : ∀ x, x ∈ ids ↔ x ∈ D.files := fun x => by rw [hids]; simp [Dk.files, hc0]
    rotate_left
    focus
      rename_i b
      have hcb : σ b = some (.row ((D.chg.map Chn.low).flatMap Chg.cells)) := h.hc
      have hbm : b ≠ m := Store.fresh_ne hm hcb
      conv => whnf
      refine AW.loop ok (ι := Nat × List Nat × Array MapEntry × Nat)
        (fun i => i.1 ≤ D.chg.length ∧ i.2.1.Nodup ∧ MapIs encP i.2.2.1 i.2.2.2 (encB i.2.1) ∧ ∀ x, x ∈ i.2.1 ↔ x ∈ D.kept.map (·.2) ++ (D.chg.take i.1).filterMap Chn.gives)
        (fun i => [(29, i64 (i.1 : Int)), (28, i64 ((D.chg.map Chn.low).length : Nat)), (27, .arr b 0 (D.chg.map Chn.low).length 3), (3, .val (.map (some m))), (0, ptrA d)])
        (fun i => σ.set m (.raw (.map i.2.2.1 i.2.2.2))) (fun i => D.chg.length - i.1) (0, ids, es, ck) ⟨Nat.zero_le _, hnd, hmap, fun x => by dsimp only; rw [hids]; simp⟩
        (.cons rfl (.cons rfl (.cons rfl (.cons rfl (.cons rfl (.nil _)))))) hsub1 ?_
      clear hids hsub1 hmem hit hall hmap hnd
      rintro ⟨i, ids, es, ck⟩ ⟨hi, hnd, hmap, hids⟩
      dsimp only at hi hnd hmap hids ⊢
      conv => whnf
      refine bcase_intro (fun hb => ?_) (fun hb => ?_) <;> (try rw [hb]); conv => whnf
      · have hlt : i < D.chg.length := by simp at hb; omega
        have hlt' : i < (D.chg.map Chn.low).length := by simpa using hlt
        refine ⟨Int.natCast_nonneg _, by omega, ?_⟩
        conv => whnf
        refine ⟨_, by rw [Store.get_set_ne _ hbm]; exact hcb, by rw [chg_len]; show 0 + ((i : Nat) : Int).toNat * 3 + 3 ≤ _; omega, ?_⟩
        conv => whnf
        have e1 : (((D.chg.map Chn.low).flatMap Chg.cells).drop (0 + ((i : Nat) : Int).toNat * 3)).take 3 = D.chg[i].low.cells := by
          rw [Nat.zero_add, Int.toNat_natCast, chg_at _ hlt', List.getElem_map]
        dsimp only
        rw [e1]
        intro t ht
        conv => whnf
        have ht2 := Store.set_fresh ht
        have hn3 := hok.n3
        refine ⟨_, Store.get_set _ _ _, Nat.le_refl 3, ?_⟩
        conv => whnf
        refine ⟨_, Store.get_set _ _ _, ?_⟩
        have hci : D.chg[i]? = some D.chg[i] := List.getElem?_eq_getElem hlt
        have hcm : D.chg[i] ∈ D.chg := List.getElem_mem hlt
        have htk : D.chg.take (i + 1) = D.chg.take i ++ [D.chg[i]] := by rw [List.take_add_one, hci]; rfl
        have hcok := hok.chg _ hcm
        generalize D.chg[i] = c at hci hcm htk hcok ⊢
        obtain ⟨gone, new, file⟩ := c
        dsimp only at hcok
        conv => whnf
        refine bcase_intro (fun hb => ?_) (fun hb => ?_)
        · have hnn : new ≠ noName := by
            rintro rfl
            revert hb; show (!((noName.toList == noName.toList) : Bool)) = true → False
            rw [toList_beq]; simp
          obtain ⟨f, rfl, hf⟩ := hcok hnn
          rw [hb]
          conv => whnf
          refine ⟨_, Store.get_set _ _ _, ?_⟩
          conv => whnf
          have hfok : ∀ {o : AObj} x, x = f ∨ x ∈ ids → okP (((σ.set m (.raw (.map es ck))).set t (.row [.val (.string ⟨#[]⟩), .val (.string ⟨#[]⟩), .val (.pointer none)])).set t o) x := fun x hx => by
            have hx' : D.fl x ≠ none := by
              rcases hx with rfl | hx
              · exact hf
              · rcases List.mem_append.1 ((hids x).1 hx) with hx | hx
                · obtain ⟨q, hq2, rfl⟩ := List.mem_map.1 hx; exact hok.kept _ hq2
                · obtain ⟨c, hc, he⟩ := List.mem_filterMap.1 hx
                  unfold Chn.gives at he
                  split at he
                  · cases he
                  · rename_i hn
                    obtain ⟨f', h1, h2⟩ := hok.chg c (List.mem_of_mem_take hc) hn
                    rw [he] at h1; injection h1 with h1; rw [h1]; exact h2
            exact okf _ x hx' (by rw [Store.get_set_ne _ (fne ht2.2 x hx'), Store.get_set_ne _ (fne ht2.2 x hx'), Store.get_set_ne _ (fne hm x hx')])
          refine update_rule ok keyP rfl rfl (m := m) (k := f) (v := .bool true) (l := encB ids) (es := es) (clock := ck) (by rw [Store.get_set_ne _ (Ne.symm ht2.1), Store.get_set_ne _ (Ne.symm ht2.1)]; exact Store.get_set _ _ _) hmap
            (hfok f (.inl rfl)) (fun p hp => by
              obtain ⟨x, hx, rfl⟩ := List.mem_map.1 hp
              exact hfok x (.inr hx)) fun es' ck' h' => ?_
          conv => whnf
          rw [encB_put _ _ hnd] at h'
          refine ⟨(i + 1, putN f ids, es', ck'), ⟨by dsimp only; omega, nodup_putN hnd, h', fun x => ?_⟩, by dsimp only; omega, .idx rfl (by omega) (.cons rfl (.cons rfl (.cons rfl (.cons rfl (.nil _))))), ?_⟩
          · dsimp only
            rw [mem_putN, hids, htk, List.filterMap_append]
            simp [Chn.gives, hnn, or_comm, or_left_comm]
          · dsimp only
            rw [Store.set_set, Store.set_comm _ ht2.1, Store.set_set]
            exact SubS.set (.refl _) (by rw [Store.get_set_ne _ ht2.1]; exact ht2.2) _
        · have hnn : new = noName := by
            revert hb; show (!((new.toList == noName.toList) : Bool)) = false → _
            rw [toList_beq]; simp
          rw [hb]
          conv => whnf
          refine ⟨(i + 1, ids, es, ck), ⟨by dsimp only; omega, hnd, hmap, fun x => ?_⟩, by dsimp only; omega, .idx rfl (by omega) (.cons rfl (.cons rfl (.cons rfl (.cons rfl (.nil _))))), ?_⟩
          · dsimp only
            rw [hids, htk, List.filterMap_append]
            simp [Chn.gives, hnn]
          · dsimp only
            rw [Store.set_set]
            exact SubS.set (.refl _) ht _
      rotate_left
      have hi' : i = D.chg.length := by simp at hb; omega
      have hids2 : ∀ x, x ∈ ids ↔ x ∈ D.files := fun x => by rw [hids, hi', List.take_length]; rfl
    all_goals
      conv => whnf
      refine range_rule ok rfl rfl (m := m) (Store.get_set _ _ _) fun r3 hr3 => ?_
      conv => whnf
      have hr4 := Store.set_fresh hr3
      have hesz : es.size = ids.length := by rw [hmap.size]; simp [encB]
      refine AW.loop ok (ι := List Nat × Array Nat) (fun i => IterIs es i.1 i.2)
        (fun i => [(8, i64 (((i.1.map (D.at ids)).sum : Nat) : Int)), (41, ptrA r3), (3, .val (.map (some m))), (0, ptrA d)])
        (fun i => (σ.set m (.raw (.map es ck))).set r3 (.raw (.mapIter (some m) ck i.2 ck)))
        (fun i => es.size - i.1.length) ([], #[]) (.empty _) (.cons rfl (.cons rfl (.cons rfl (.cons rfl (.nil _))))) (.refl _) ?_
      rintro ⟨done, seen⟩ hit
      dsimp only at hit
      conv => whnf
      refine next_rule (m := m) (r := r3) (Store.get_set _ _ _) (by rw [Store.get_set_ne _ (Ne.symm hr4.1)]; exact Store.get_set _ _ _) hmap hit (fun hall => ?_) (fun j p seen' hp hj hit' => ?_)
      · conv => whnf
        have hperm := IterIs.all hit (fun j hj => hall j (by rw [encB, List.length_map, ← hesz]; exact hj))
        have hsum : ((done.map (D.at ids)).sum : Nat) = D.used := by
          rw [List.Perm.sum_nat (hperm.map _), hesz, range_at, used_any D hnd hids2]
        refine ⟨_, _, .drop (SubS.set (SubS.set (.refl _) hm _) hr4.2 _), ?_⟩
        rw [← hsum] at hR
        exact hR
      · obtain ⟨f, hq, rfl⟩ : ∃ q, ids[j]? = some q ∧ p = (q, .bool true) := by
          rw [encB, List.getElem?_map] at hp
          obtain ⟨q, hq, rfl⟩ := Option.map_eq_some_iff.1 hp
          exact ⟨q, hq, rfl⟩
        have hfl : D.fl f ≠ none := by
          have := (hids2 f).1 (List.mem_of_getElem? hq)
          rcases List.mem_append.1 this with hf | hf
          · obtain ⟨q, hq2, rfl⟩ := List.mem_map.1 hf; exact hok.kept _ hq2
          · obtain ⟨c, hc, he⟩ := List.mem_filterMap.1 hf
            unfold Chn.gives at he
            split at he
            · cases he
            · rename_i hn
              obtain ⟨f', h1, h2⟩ := hok.chg c hc hn
              rw [he] at h1; injection h1 with h1; rw [h1]; exact h2
        obtain ⟨⟨cb, kb⟩, hcf⟩ := Option.ne_none_iff_exists'.1 hfl
        conv => whnf
        refine entry_rule (m := m) (r := r3) (Store.get_set _ _ _) (by rw [Store.get_set_ne _ (Ne.symm hr4.1), Store.get_set_ne _ (Ne.symm hr4.1)]; exact Store.get_set _ _ _) hmap hit' hp ?_
        conv => whnf
        refine ⟨_, by rw [Store.get_set_ne _ (fne hr4.2 f hfl), Store.get_set_ne _ (fne hr4.2 f hfl), Store.get_set_ne _ (fne hm f hfl)]; exact h.fl f cb kb hcf, ?_⟩
        conv => whnf
        have hlen := IterIs.len hit'
        have hl1 : (done ++ [j]).length = done.length + 1 := by simp
        have hidl : ids.length ≤ 2000000 := by
          have h1 := List.Perm.length_eq ((List.perm_ext_iff_of_nodup hnd (nodup_setN D.files)).2 fun x => by rw [hids2, mem_setN])
          have h2 := setN_length D.files
          have h3 := hok.files_le
          omega
        have hbig : (done.map (D.at ids)).sum ≤ 20000000000000 := by
          have h1 := sum_le (l := done.map (D.at ids)) (n := 10000000) (fun x hx => by
              obtain ⟨j, _, rfl⟩ := List.mem_map.1 hx
              unfold Dk.at
              split
              · exact hok.len_le _
              · omega)
          rw [List.length_map] at h1
          rw [List.length_append] at hlen
          have : done.length * 10000000 ≤ 2000000 * 10000000 := Nat.mul_le_mul_right _ (by omega)
          omega
        have hle := hok.len_le f
        have hlf : D.len f = cb.length := by simp [Dk.len, hcf]
        refine ⟨(done ++ [j], seen'), hit', by dsimp only; rw [hl1] at hlen ⊢; omega, .cons ?_ (.cons rfl (.cons rfl (.cons rfl (.nil _)))), ?_⟩
        · show some (AV.val (.int .i64 (IntKind.wrap .i64 (((done.map (D.at ids)).sum : Nat) + ((cb.map u8).length : Nat))))) = _
          rw [List.length_map, wrap64 (by omega) (by omega), List.map_append, List.sum_append]
          simp only [List.map_cons, List.map_nil, List.sum_cons, List.sum_nil, Dk.at, hq, hlf]
          rfl
        · rw [Store.set_set]; exact .refl _
  · obtain ⟨⟨k, f⟩, hq, rfl⟩ : ∃ q, D.kept[j]? = some q ∧ p = (q.1, encP q.2) := by
      rw [encN, List.getElem?_map] at hp
      obtain ⟨q, hq, rfl⟩ := Option.map_eq_some_iff.1 hp
      exact ⟨q, hq, rfl⟩
    have hf := hok.kept _ (List.mem_of_getElem? hq)
    conv => whnf
    refine entry_rule (m := m2) (r := r) (Store.get_set _ _ _) (by rw [Store.get_set_ne _ hrm2, Store.get_set_ne _ hrm2, Store.get_set_ne _ hm2]; exact h.h2) h.l2 hit' hp ?_
    conv => whnf
    have hfok : ∀ {σ' : Store} x, x = f ∨ x ∈ ids → (∀ y, y ≠ m → y ≠ r → σ' y = σ y) → okP σ' x := fun x hx e => by
      have hx' : D.fl x ≠ none := by
        rcases hx with rfl | hx
        · exact hf
        · obtain ⟨j, _, k, hk⟩ := (hmem x).1 hx
          exact hok.kept _ (List.mem_of_getElem? hk)
      exact okf _ x hx' (e x (fne hm x hx') (fne hr2.2 x hx'))
    have hag : ∀ y, y ≠ m → y ≠ r → (((σ.set m (.raw (.map es ck))).set r (.raw (.mapIter (some m2) c2 seen c2))).set r (.raw (.mapIter (some m2) c2 seen' c2))) y = σ y := fun y h1 h2 => by
      rw [Store.get_set_ne _ h2, Store.get_set_ne _ h2, Store.get_set_ne _ h1]
    refine update_rule ok keyP rfl rfl (m := m) (k := f) (v := .bool true) (l := encB ids) (es := es) (clock := ck) (by rw [Store.get_set_ne _ (Ne.symm hr2.1), Store.get_set_ne _ (Ne.symm hr2.1)]; exact Store.get_set _ _ _) hmap
      (hfok f (.inl rfl) hag) (fun p hp => by
        obtain ⟨x, hx, rfl⟩ := List.mem_map.1 hp
        exact hfok x (.inr hx) hag) fun es' ck' h' => ?_
    conv => whnf
    rw [encB_put _ _ hnd] at h'
    have hlen := IterIs.len hit'
    rw [hes2, List.length_append] at hlen
    refine ⟨(done ++ [j], putN f ids, es', ck', seen'), ⟨nodup_putN hnd, h', hit', fun x => ?_⟩, by dsimp only; rw [List.length_append]; simp only [List.length_cons, List.length_nil] at hlen ⊢; omega, .cons rfl (.cons rfl (.cons rfl (.nil _))), ?_⟩
    · rw [mem_putN, hmem]
      constructor
      · rintro (rfl | ⟨j', hj', k', hk'⟩)
        · exact ⟨j, by simp, k, hq⟩
        · exact ⟨j', by simp [hj'], k', hk'⟩
      · rintro ⟨j', hj', k', hk'⟩
        rcases List.mem_append.1 hj' with hj' | hj'
        · exact .inr ⟨j', hj', k', hk'⟩
        · simp only [List.mem_singleton] at hj'
          subst hj'
          rw [hq] at hk'
          injection hk' with hk'
          injection hk' with _ hk'
          exact .inl hk'.symm
    · dsimp only
      rw [Store.set_set, Store.set_comm _ hr2.1, Store.set_set]
      exact .refl _

end Go.Cr.Try

namespace Go.Cr.Try
open Go Go.Cr Go.Proofs

/-! ### What can be done with a disk: plain -/

def rightN (s : ByteArray) : Bool := decide (1 ≤ s.size) && decide (s.size ≤ 32)
def Dk.changed (D : Dk) (c : Chn) : Dk := { D with now := doN D.now c, chg := D.chg ++ [c] }
def Dk.createE (D : Dk) (name : ByteArray) : Int := if D.rdy.2 ≠ 0 then D.rdy.2 else if rightN name = false then 1 else if nget name D.now ≠ none then 4 else 0
/-- A file is made: nf. -/
def Dk.created (D : Dk) (name : ByteArray) (nf : Nat) : Dk := (D.rdy.1.setf nf [] 0).changed ⟨noName, name, some nf⟩
def Dk.append (D : Dk) (name : ByteArray) (b : List UInt8) : Dk × Int :=
  if D.rdy.2 ≠ 0 then D.rdy else match nget name D.now with
    | none => (D.rdy.1, 2)
    | some f => if (D.used : Int) + b.length > D.room then (D.rdy.1, 41) else (D.rdy.1.setf f (D.bytes f ++ b) (D.kp f), 0)
def Dk.sync (D : Dk) (name : ByteArray) : Dk × Int :=
  if D.rdy.2 ≠ 0 then D.rdy else match nget name D.now with
    | none => (D.rdy.1, 2)
    | some f => (D.rdy.1.setf f (D.bytes f) (D.bytes f).length, 0)
def Dk.rename (D : Dk) (a b : ByteArray) : Dk × Int :=
  if D.rdy.2 ≠ 0 then D.rdy else match nget a D.now with
    | none => (D.rdy.1, 2)
    | some f => if rightN b = false then (D.rdy.1, 1) else (D.rdy.1.changed ⟨a, b, some f⟩, 0)
def Dk.remove (D : Dk) (name : ByteArray) : Dk × Int :=
  if D.rdy.2 ≠ 0 then D.rdy else match nget name D.now with
    | none => (D.rdy.1, 2)
    | some _ => (D.rdy.1.changed ⟨name, noName, none⟩, 0)
def Dk.syncNames (D : Dk) : Dk × Int :=
  if D.rdy.2 ≠ 0 then D.rdy else ({ D.rdy.1 with kept := D.now, chg := [] }, 0)
/-- What is read: the bytes, and the error. -/
def Dk.read (D : Dk) (name : ByteArray) : List UInt8 × Int :=
  if D.rdy.2 ≠ 0 then ([], D.rdy.2) else match nget name D.now with
    | none => ([], 2)
    | some f => (D.bytes f, 0)
def Dk.doom (D : Dk) (n : Int) : Dk := { D with doomed := true, left := n }

theorem Dk.rdy_now (D : Dk) : D.rdy.1.now = D.now := D.rdy_same.1
theorem Dk.rdy_kept (D : Dk) : D.rdy.1.kept = D.kept := D.rdy_same.2.1
theorem Dk.rdy_chg (D : Dk) : D.rdy.1.chg = D.chg := D.rdy_same.2.2.1
theorem Dk.rdy_room (D : Dk) : D.rdy.1.room = D.room := D.rdy_same.2.2.2.1
theorem Dk.rdy_fl (D : Dk) : D.rdy.1.fl = D.fl := D.rdy_same.2.2.2.2
theorem Dk.rdy_len (D : Dk) : D.rdy.1.len = D.len := by funext f; simp only [Dk.len, Dk.rdy_fl]
theorem Dk.rdy_used (D : Dk) : D.rdy.1.used = D.used := by
  simp only [Dk.used, Dk.files, Dk.rdy_kept, Dk.rdy_chg, Dk.rdy_len]

theorem nget_mem {k : ByteArray} {f : Nat} : ∀ {l : Nm}, nget k l = some f → ∃ p ∈ l, p.2 = f
  | [], h => by cases h
  | p :: l, h => by
    simp only [nget] at h
    split at h
    · injection h with h; exact ⟨p, List.mem_cons_self, h⟩
    · obtain ⟨q, hq, e⟩ := nget_mem h; exact ⟨q, List.mem_cons_of_mem _ hq, e⟩

/-! ### The same in the store -/

section
variable {σ : Store} {F : Nat → Prop} {d : Nat} {D : Dk} {m1 m2 : Nat} {ob : Option Nat} {es1 es2 : Array MapEntry} {c1 c2 : Nat}

/-- The disk's own variable is written. -/
theorem DiskIn.setd (h : DiskIn σ F d D m1 m2 ob es1 c1 es2 c2) {D' : Dk} (e1 : D'.now = D.now) (e2 : D'.kept = D.kept) (e3 : D'.chg = D.chg) (e4 : D'.fl = D.fl) :
    DiskIn (σ.set d (.row (D'.hd m1 m2 ob).row)) F d D' m1 m2 ob es1 c1 es2 c2 where
  hd := Store.get_set _ _ _
  h1 := by rw [Store.get_set_ne _ (Ne.symm h.d_m1)]; exact h.h1
  l1 := by rw [e1]; exact h.l1
  h2 := by rw [Store.get_set_ne _ (Ne.symm h.d_m2)]; exact h.h2
  l2 := by rw [e2]; exact h.l2
  ne := h.ne
  hc := by
    have := h.hc
    rw [e3]
    cases ob with
    | none => exact this
    | some b => show (σ.set d _) b = _; rw [Store.get_set_ne _ (h.c_d rfl)]; exact this
  fl f c k hf := by
    rw [e4] at hf
    rw [Store.get_set_ne _ (h.f_d (by rw [hf]; simp))]; exact h.fl f c k hf
  fd := h.fd
  f1 := h.f1
  f2 := h.f2
  fc := h.fc
  ff f hf := h.ff f (by rw [e4] at hf; exact hf)
  own b hb := by
    by_cases e : b = d
    · subst e; rw [Store.get_set]; simp
    · rw [Store.get_set_ne _ e]; exact h.own b hb

theorem DiskIn.rdy (h : DiskIn σ F d D m1 m2 ob es1 c1 es2 c2) : DiskIn (σ.set d (.row (readyH (D.hd m1 m2 ob)).1.row)) F d D.rdy.1 m1 m2 ob es1 c1 es2 c2 := by
  rw [Dk.rdy_hd]
  exact h.setd D.rdy_now D.rdy_kept D.rdy_chg D.rdy_fl

theorem DiskIn.at_ (h : DiskIn σ F d D m1 m2 ob es1 c1 es2 c2) : DiskAt σ F d D := ⟨m1, m2, ob, es1, c1, es2, c2, h⟩

theorem Keeps.own {o : AObj} {b : Nat} (hb : F b) : Keeps σ F (σ.set b o) F := fun x o' hx hn => ⟨by rw [Store.get_set_ne _ (fun e : x = b => hn (e ▸ hb))]; exact hx, hn⟩

/-- A file is written. -/
theorem DiskIn.setf (h : DiskIn σ F d D m1 m2 ob es1 c1 es2 c2) {f : Nat} (hf : D.fl f ≠ none) (c : List UInt8) (k : Int) : DiskIn (σ.set f (.row (fileRow c k))) F d (D.setf f c k) m1 m2 ob es1 c1 es2 c2 where
  hd := by rw [Store.get_set_ne _ (Ne.symm (h.f_d hf))]; exact h.hd
  h1 := by rw [Store.get_set_ne _ (Ne.symm (h.f_m1 hf))]; exact h.h1
  l1 := h.l1
  h2 := by rw [Store.get_set_ne _ (Ne.symm (h.f_m2 hf))]; exact h.h2
  l2 := h.l2
  ne := h.ne
  hc := by
    have := h.hc
    cases ob with
    | none => exact this
    | some b => show (σ.set f _) b = _; rw [Store.get_set_ne _ (h.c_f rfl hf)]; exact this
  fl g c' k' hg := by
    simp only [Dk.setf] at hg
    split at hg
    · rename_i e; subst e; injection hg with hg; injection hg with e1 e2; subst e1 e2; exact Store.get_set _ _ _
    · rename_i e; rw [Store.get_set_ne _ e]; exact h.fl g c' k' hg
  fd := h.fd
  f1 := h.f1
  f2 := h.f2
  fc := h.fc
  ff g hg := by
    simp only [Dk.setf] at hg
    split at hg
    · rename_i e; subst e; exact h.ff _ hf
    · exact h.ff g hg
  own b hb := by
    by_cases e : b = f
    · subst e; rw [Store.get_set]; simp
    · rw [Store.get_set_ne _ e]; exact h.own b hb

theorem chgOff_ne {x : Nat} (hx : ob ≠ some x) : chgOff σ ob x = σ x := by
  cases ob with
  | none => rfl
  | some b => exact Store.del_ne _ (fun e => hx (by rw [e]))

/-- A change is done. -/
theorem DiskIn.changed (h : DiskIn σ F d D m1 m2 ob es1 c1 es2 c2) (c : Chn) {es' : Array MapEntry} {ck' b : Nat} (hl : MapIs Value.string es' ck' (encN (doN D.now c)))
    (hb : chgOff σ ob b = none) (hb1 : b ≠ m1) (hb2 : b ≠ d) :
    DiskIn ((((chgOff σ ob).set m1 (.raw (.map es' ck'))).set b (.row ((D.chg.map Chn.low ++ [c.low]).flatMap Chg.cells))).set d (.row (Hd.row ⟨m1, m2, chgV (D.chg.map Chn.low ++ [c.low]).length (some b), D.room, D.down, D.doomed, D.left⟩)))
      (fun x => x = b ∨ (F x ∧ ob ≠ some x)) d (D.changed c) m1 m2 (some b) es' ck' es2 c2 := by
  have hbx : ∀ {x o}, ob ≠ some x → σ x = some o → x ≠ b := fun hx ho e => by
    rw [← e, chgOff_ne hx, ho] at hb; cases hb
  have n1 : ob ≠ some m1 := fun e => h.c_m1 e rfl
  have n2 : ob ≠ some m2 := fun e => h.c_m2 e rfl
  have nd : ob ≠ some d := fun e => h.c_d e rfl
  have nf : ∀ {f}, D.fl f ≠ none → ob ≠ some f := fun hf e => h.c_f e hf rfl
  refine ⟨?_, ?_, hl, ?_, h.l2, h.ne, ?_, ?_, ?_, ?_, ?_, ?_, ?_, ?_⟩
  · rw [Store.get_set]
    simp [Dk.hd, Dk.changed]
  · rw [Store.get_set_ne _ (Ne.symm h.d_m1), Store.get_set_ne _ (Ne.symm hb1)]; exact Store.get_set _ _ _
  · rw [Store.get_set_ne _ (Ne.symm h.d_m2), Store.get_set_ne _ (hbx n2 h.h2), Store.get_set_ne _ (Ne.symm h.ne), chgOff_ne n2]; exact h.h2
  · show (Store.set _ d _) b = _
    rw [Store.get_set_ne _ hb2, Store.get_set]
    simp [Dk.changed]
  · intro f c' k' hf
    have hf' : D.fl f ≠ none := by
      have : D.fl f = some (c', k') := hf
      rw [this]; simp
    rw [Store.get_set_ne _ (h.f_d hf'), Store.get_set_ne _ (hbx (nf hf') (h.fl f c' k' hf)), Store.get_set_ne _ (h.f_m1 hf'), chgOff_ne (nf hf')]
    exact h.fl f c' k' hf
  · exact .inr ⟨h.fd, nd⟩
  · exact .inr ⟨h.f1, n1⟩
  · exact .inr ⟨h.f2, n2⟩
  · intro x e; injection e with e; exact .inl e.symm
  · intro f hf; exact .inr ⟨h.ff f hf, nf hf⟩
  · intro x hx
    by_cases e1 : x = d
    · subst e1; rw [Store.get_set]; simp
    · rw [Store.get_set_ne _ e1]
      by_cases e2 : x = b
      · subst e2; rw [Store.get_set]; simp
      · rw [Store.get_set_ne _ e2]
        by_cases e3 : x = m1
        · subst e3; rw [Store.get_set]; simp
        · rw [Store.get_set_ne _ e3]
          rcases hx with hx | ⟨hx, hn⟩
          · exact absurd hx e2
          · rw [chgOff_ne hn]; exact h.own x hx

theorem DiskIn.changed_keeps (h : DiskIn σ F d D m1 m2 ob es1 c1 es2 c2) {o1 o2 o3 : AObj} {b : Nat} (hb : chgOff σ ob b = none) : Keeps σ F ((((chgOff σ ob).set m1 o1).set b o2).set d o3) (fun x => x = b ∨ (F x ∧ ob ≠ some x)) := by
  intro x o hx hn
  have hxo : ob ≠ some x := fun e => hn (h.fc x e)
  have hxb : x ≠ b := fun e => by rw [← e, chgOff_ne hxo, hx] at hb; cases hb
  refine ⟨?_, fun hc => ?_⟩
  · rw [Store.get_set_ne _ (fun e : x = d => hn (e ▸ h.fd)), Store.get_set_ne _ hxb, Store.get_set_ne _ (fun e : x = m1 => hn (e ▸ h.f1)), chgOff_ne hxo]; exact hx
  · rcases hc with hc | ⟨hc, _⟩
    · exact hxb hc
    · exact hn hc

end

/-! ### Contracts -/

variable {σ : Store} {F : Nat → Prop} {d : Nat} {D : Dk}

theorem ready_d (hD : DiskAt σ F d D) (hok : D.Ok) (R : AV → Store → Prop) (hR : ∀ σ', DiskAt σ' F d D.rdy.1 → Keeps σ F σ' F → R (i64 D.rdy.2) σ') : ACalls P 50 [ptrA d] σ R := by
  obtain ⟨m1, m2, ob, es1, c1, es2, c2, h⟩ := hD
  refine ready_v d (D.hd m1 m2 ob) hok.l0 hok.l1 σ h.hd R ?_
  have := hR _ h.rdy.at_ (Keeps.own h.fd)
  rw [Dk.rdy_hd] at this ⊢; exact this

theorem find_d (hD : DiskAt σ F d D) (hok : D.Ok) (name : ByteArray) (R : AV → Store → Prop)
    (r1 : D.rdy.2 ≠ 0 → ∀ σ', DiskAt σ' F d D.rdy.1 → Keeps σ F σ' F → R (.tup [.val (.pointer none), i64 D.rdy.2]) σ')
    (r2 : D.rdy.2 = 0 → nget name D.now = none → ∀ σ', DiskAt σ' F d D.rdy.1 → Keeps σ F σ' F → R (.tup [.val (.pointer none), i64 2]) σ')
    (r3 : D.rdy.2 = 0 → ∀ f, nget name D.now = some f → ∀ σ', DiskAt σ' F d D.rdy.1 → Keeps σ F σ' F → R (.tup [ptrA f, i64 0]) σ') :
    ACalls P 33 [ptrA d, .val (.string name)] σ R := by
  obtain ⟨m1, m2, ob, es1, c1, es2, c2, h⟩ := hD
  have e := Dk.rdy_hd D m1 m2 ob
  have e2 : (readyH (D.hd m1 m2 ob)).2 = D.rdy.2 := by rw [e]
  refine find_v d (D.hd m1 m2 ob) hok.l0 hok.l1 name D.now es1 c1 σ h.hd h.h1 h.l1 R (fun he => ?_) (fun he hn => ?_) (fun he f hf => ?_)
  · rw [e2] at he ⊢; exact r1 he _ h.rdy.at_ (Keeps.own h.fd)
  · exact r2 (e2 ▸ he) hn _ h.rdy.at_ (Keeps.own h.fd)
  · exact r3 (e2 ▸ he) f hf _ h.rdy.at_ (Keeps.own h.fd)

theorem changed_d (hD : DiskAt σ F d D) (hok : D.Ok) (c : Chn) (hc : c.ok) (R : AV → Store → Prop) (hR : ∀ a σ' F', DiskAt σ' F' d (D.changed c) → Keeps σ F σ' F' → R a σ') :
    ACalls P 53 [ptrA d, .agg c.low.cells] σ R := by
  obtain ⟨m1, m2, ob, es1, c1, es2, c2, h⟩ := hD
  refine changed_v d m1 m2 D.room D.down D.doomed D.left (D.chg.map Chn.low) ob c.low (encN D.now) es1 c1 σ h.hd h.h1 h.l1 h.hc (by rw [List.length_map]; exact hok.n3) R fun a es' ck' b hl hb hb1 hb2 => ?_
  rw [doL_enc _ _ hc] at hl
  exact hR a _ _ (h.changed c hl hb hb1 hb2).at_ (h.changed_keeps hb)

end Go.Cr.Try

namespace Go.Cr.Try
open Go Go.Cr Go.Proofs

variable {σ : Store} {F : Nat → Prop} {d : Nat} {D : Dk}

theorem sync_d (hD : DiskAt σ F d D) (hok : D.Ok) (name : ByteArray) (R : AV → Store → Prop) (hR : ∀ σ', DiskAt σ' F d (D.sync name).1 → Keeps σ F σ' F → R (i64 (D.sync name).2) σ') :
    ACalls P 30 [ptrA d, .val (.string name)] σ R := by
  obtain ⟨m1, m2, ob, es1, c1, es2, c2, h⟩ := hD
  have e := Dk.rdy_hd D m1 m2 ob
  have e2 : (readyH (D.hd m1 m2 ob)).2 = D.rdy.2 := by rw [e]
  refine sync_v d (D.hd m1 m2 ob) hok.l0 hok.l1 name D.now es1 c1 σ h.hd h.h1 h.l1 R (fun he => ?_) (fun he hn => ?_) (fun he f hf => ?_)
  · rw [e2] at he ⊢
    have hs : D.sync name = D.rdy := by unfold Dk.sync; rw [if_pos he]
    rw [hs] at hR
    exact hR _ h.rdy.at_ (Keeps.own h.fd)
  · rw [e2] at he
    have hs : D.sync name = (D.rdy.1, 2) := by unfold Dk.sync; rw [if_neg (by simp [he]), hn]
    rw [hs] at hR
    exact hR _ h.rdy.at_ (Keeps.own h.fd)
  · rw [e2] at he
    have hs : D.sync name = (D.rdy.1.setf f (D.bytes f) (D.bytes f).length, 0) := by unfold Dk.sync; rw [if_neg (by simp [he]), hf]
    rw [hs] at hR
    have hfl : D.fl f ≠ none := by
      obtain ⟨p, hp, e⟩ : ∃ p ∈ D.now, p.2 = f := nget_mem hf
      rw [← e]; exact hok.now p hp
    obtain ⟨⟨c, k⟩, hc⟩ := Option.ne_none_iff_exists'.1 hfl
    have hb : D.bytes f = c := by simp [Dk.bytes, hc]
    rw [hb] at hR
    refine ⟨c, k, h.fl f c k hc, hR _ (h.rdy.setf (by rw [Dk.rdy_fl]; exact hfl) c c.length).at_ ((Keeps.own h.fd).trans (Keeps.own (h.ff f hfl)))⟩

theorem read_d (hD : DiskAt σ F d D) (hok : D.Ok) (name : ByteArray) (R : AV → Store → Prop)
    (hR : ∀ σ', DiskAt σ' F d D.rdy.1 → Keeps σ F σ' F → R (.tup [bys (D.read name).1, i64 (D.read name).2]) σ') :
    ACalls P 17 [ptrA d, .val (.string name)] σ R := by
  obtain ⟨m1, m2, ob, es1, c1, es2, c2, h⟩ := hD
  have e := Dk.rdy_hd D m1 m2 ob
  have e2 : (readyH (D.hd m1 m2 ob)).2 = D.rdy.2 := by rw [e]
  refine AInv.seen (read_v d (D.hd m1 m2 ob) hok.l0 hok.l1 name D.now es1 c1 σ h.hd h.h1 h.l1 _ (fun he => ?_) (fun he hn => ?_) (fun he f hf => ?_))
  · rw [e2] at he ⊢
    have hs : D.read name = ([], D.rdy.2) := by unfold Dk.read; rw [if_pos he]
    rw [hs] at hR
    exact ⟨_, _, .tup1 (.nil (.refl _)), hR _ h.rdy.at_ (Keeps.own h.fd)⟩
  · rw [e2] at he
    have hs : D.read name = ([], 2) := by unfold Dk.read; rw [if_neg (by simp [he]), hn]
    rw [hs] at hR
    exact ⟨_, _, .tup1 (.nil (.refl _)), hR _ h.rdy.at_ (Keeps.own h.fd)⟩
  · rw [e2] at he
    have hs : D.read name = (D.bytes f, 0) := by unfold Dk.read; rw [if_neg (by simp [he]), hf]
    rw [hs] at hR
    have hfl : D.fl f ≠ none := by
      obtain ⟨p, hp, e⟩ : ∃ p ∈ D.now, p.2 = f := nget_mem hf
      rw [← e]; exact hok.now p hp
    obtain ⟨⟨c, k⟩, hc⟩ := Option.ne_none_iff_exists'.1 hfl
    have hb : D.bytes f = c := by simp [Dk.bytes, hc]
    rw [hb] at hR
    have := hok.fl f c k hc
    exact ⟨c, k, by omega, h.fl f c k hc, seen (hR _ h.rdy.at_ (Keeps.own h.fd))⟩

theorem syncNames_d (hD : DiskAt σ F d D) (hok : D.Ok) (R : AV → Store → Prop) (hR : ∀ σ' F', DiskAt σ' F' d D.syncNames.1 → Keeps σ F σ' F' → R (i64 D.syncNames.2) σ') :
    ACalls P 44 [ptrA d] σ R := by
  obtain ⟨m1, m2, ob, es1, c1, es2, c2, h⟩ := hD
  have e := Dk.rdy_hd D m1 m2 ob
  have e2 : (readyH (D.hd m1 m2 ob)).2 = D.rdy.2 := by rw [e]
  refine syncNames_v d (D.hd m1 m2 ob) hok.l0 hok.l1 es1 c1 σ h.hd h.h1 R (fun he => ?_) (fun he b hb hbd => ?_)
  · rw [e2] at he ⊢
    have hs : D.syncNames = D.rdy := by unfold Dk.syncNames; rw [if_pos he]
    rw [hs] at hR
    exact hR _ _ h.rdy.at_ (Keeps.own h.fd)
  · rw [e2] at he
    have hs : D.syncNames = ({ D.rdy.1 with kept := D.now, chg := [] }, 0) := by unfold Dk.syncNames; rw [if_neg (by simp [he])]
    rw [hs] at hR
    have hbx : ∀ {x o}, σ x = some o → x ≠ b := fun ho => Store.fresh_ne hb ho
    refine hR _ (fun x => x = b ∨ F x) ⟨m1, b, none, es1, c1, es1, c1, ?_⟩ ?_
    · rw [e]
      refine ⟨?_, ?_, ?_, ?_, h.l1, hbx h.h1, ?_, ?_, ?_, ?_, ?_, ?_, ?_, ?_⟩
      · exact Store.get_set _ _ _
      · rw [Store.get_set_ne _ (Ne.symm h.d_m1), Store.get_set_ne _ (hbx h.h1)]; exact h.h1
      · dsimp only; rw [Dk.rdy_now]; exact h.l1
      · rw [Store.get_set_ne _ hbd, Store.get_set]
      · rfl
      · intro f c k hf
        have hf' : D.fl f = some (c, k) := by rw [← Dk.rdy_fl]; exact hf
        rw [Store.get_set_ne _ (h.f_d (by rw [hf']; simp)), Store.get_set_ne _ (hbx (h.fl f c k hf'))]; exact h.fl f c k hf'
      · exact .inr h.fd
      · exact .inr h.f1
      · exact .inl rfl
      · intro x hx; cases hx
      · intro f hf; exact .inr (h.ff f (by rw [← Dk.rdy_fl]; exact hf))
      · intro x hx
        by_cases e1 : x = d
        · subst e1; rw [Store.get_set]; simp
        · rw [Store.get_set_ne _ e1]
          rcases hx with rfl | hx
          · rw [Store.get_set]; simp
          · rw [Store.get_set_ne _ (fun e3 : x = b => h.own x hx (e3 ▸ hb))]; exact h.own x hx
    · intro x o hx hn
      refine ⟨by rw [Store.get_set_ne _ (fun e : x = d => hn (e ▸ h.fd)), Store.get_set_ne _ (hbx hx)]; exact hx, fun hc => ?_⟩
      rcases hc with rfl | hc
      · exact hbx hx rfl
      · exact hn hc

theorem doom_d (hD : DiskAt σ F d D) (n : Int) (hn : 0 ≤ n) (R : AV → Store → Prop) (hR : ∀ σ', DiskAt σ' F d (D.doom n) → Keeps σ F σ' F → R (i64 0) σ') :
    ACalls P 7 [ptrA d, i64 n] σ R := by
  obtain ⟨m1, m2, ob, es1, c1, es2, c2, h⟩ := hD
  refine doom_v d (D.hd m1 m2 ob) n hn σ h.hd R ?_
  exact hR _ (h.setd (D' := D.doom n) rfl rfl rfl rfl).at_ (Keeps.own h.fd)

theorem remove_d (hD : DiskAt σ F d D) (hok : D.Ok) (name : ByteArray) (R : AV → Store → Prop) (hR : ∀ σ' F', DiskAt σ' F' d (D.remove name).1 → Keeps σ F σ' F' → R (i64 (D.remove name).2) σ') :
    ACalls P 36 [ptrA d, .val (.string name)] σ R := by
  refine AInv.seen (AInv.of_body ok Try.func36 rfl (by decide) rfl ?_)
  conv => whnf
  refine find_d hD hok name _ (fun he σ' h1 h2 => ?_) (fun he hn σ' h1 h2 => ?_) (fun he f hf σ' h1 h2 => ?_)
  · conv => whnf
    have hs : D.remove name = D.rdy := by unfold Dk.remove; rw [if_pos he]
    have e1 : (D.rdy.2 != 0) = true := by simpa using he
    rw [e1]
    conv => whnf
    rw [hs] at hR
    exact seen (hR _ _ h1 h2)
  · conv => whnf
    have hs : D.remove name = (D.rdy.1, 2) := by unfold Dk.remove; rw [if_neg (by simp [he]), hn]
    rw [hs] at hR
    exact seen (hR _ _ h1 h2)
  · conv => whnf
    have hs : D.remove name = (D.rdy.1.changed ⟨name, noName, none⟩, 0) := by unfold Dk.remove; rw [if_neg (by simp [he]), hf]
    rw [hs] at hR
    refine changed_d h1 hok.rdy ⟨name, noName, none⟩ (fun h => absurd rfl h) _ fun a σ'' F'' h3 h4 => ?_
    conv => whnf
    exact seen (hR _ _ h3 (h2.trans h4))

theorem rename_d (hD : DiskAt σ F d D) (hok : D.Ok) (a b : ByteArray) (R : AV → Store → Prop) (hR : ∀ σ' F', DiskAt σ' F' d (D.rename a b).1 → Keeps σ F σ' F' → R (i64 (D.rename a b).2) σ') :
    ACalls P 43 [ptrA d, .val (.string a), .val (.string b)] σ R := by
  refine AInv.seen (AInv.of_body ok Try.func43 rfl (by decide) rfl ?_)
  conv => whnf
  refine find_d hD hok a _ (fun he σ' h1 h2 => ?_) (fun he hn σ' h1 h2 => ?_) (fun he f hf σ' h1 h2 => ?_)
  · conv => whnf
    have hs : D.rename a b = D.rdy := by unfold Dk.rename; rw [if_pos he]
    have e1 : (D.rdy.2 != 0) = true := by simpa using he
    rw [e1]
    conv => whnf
    rw [hs] at hR
    exact seen (hR _ _ h1 h2)
  · conv => whnf
    have hs : D.rename a b = (D.rdy.1, 2) := by unfold Dk.rename; rw [if_neg (by simp [he]), hn]
    rw [hs] at hR
    exact seen (hR _ _ h1 h2)
  · conv => whnf
    refine disk_right b _ _ ?_
    conv => whnf
    refine bcase_intro (fun hb => ?_) (fun hb => ?_) <;> (try rw [hb]); conv => whnf
    · have hb' : rightN b = false := by
        have hb2 : (!rightN b) = true := hb
        simpa only [Bool.not_eq_true'] using hb2
      have hs : D.rename a b = (D.rdy.1, 1) := by unfold Dk.rename; rw [if_neg (by simp [he]), hf]; dsimp only; rw [if_pos hb']
      rw [hs] at hR
      exact seen (hR _ _ h1 h2)
    · have hb' : rightN b = true := by
        have hb2 : (!rightN b) = false := hb
        simpa only [Bool.not_eq_false'] using hb2
      have hs : D.rename a b = (D.rdy.1.changed ⟨a, b, some f⟩, 0) := by unfold Dk.rename; rw [if_neg (by simp [he]), hf]; dsimp only; rw [if_neg (by simp [hb'])]
      rw [hs] at hR
      conv => whnf
      refine changed_d h1 hok.rdy ⟨a, b, some f⟩ (fun _ => by simp) _ fun a σ'' F'' h3 h4 => ?_
      conv => whnf
      exact seen (hR _ _ h3 (h2.trans h4))

end Go.Cr.Try

namespace Go.Cr.Try
open Go Go.Cr Go.Proofs

variable {σ : Store} {F : Nat → Prop} {d : Nat} {D : Dk}

/-- A new file, that is the disk's from here on. -/
theorem DiskIn.newf {m1 m2 : Nat} {ob : Option Nat} {es1 es2 : Array MapEntry} {c1 c2 : Nat} (h : DiskIn σ F d D m1 m2 ob es1 c1 es2 c2) {f : Nat} (hf : σ f = none) (c : List UInt8) (k : Int) :
    DiskIn (σ.set f (.row (fileRow c k))) (fun x => x = f ∨ F x) d (D.setf f c k) m1 m2 ob es1 c1 es2 c2 := by
  have hbx : ∀ {x o}, σ x = some o → x ≠ f := fun ho => Store.fresh_ne hf ho
  refine ⟨?_, ?_, h.l1, ?_, h.l2, h.ne, ?_, ?_, .inr h.fd, .inr h.f1, .inr h.f2, fun b hb => .inr (h.fc b hb), ?_, ?_⟩
  · rw [Store.get_set_ne _ (hbx h.hd)]; exact h.hd
  · rw [Store.get_set_ne _ (hbx h.h1)]; exact h.h1
  · rw [Store.get_set_ne _ (hbx h.h2)]; exact h.h2
  · have := h.hc
    cases ob with
    | none => exact this
    | some b => show (σ.set f _) b = _; rw [Store.get_set_ne _ (hbx this)]; exact this
  · intro g c' k' hg
    simp only [Dk.setf] at hg
    split at hg
    · rename_i e; subst e; injection hg with hg; injection hg with e1 e2; subst e1 e2; exact Store.get_set _ _ _
    · rename_i e; rw [Store.get_set_ne _ e]; exact h.fl g c' k' hg
  · intro g hg
    simp only [Dk.setf] at hg
    split at hg
    · rename_i e; exact .inl e
    · exact .inr (h.ff g hg)
  · intro x hx
    by_cases e : x = f
    · subst e; rw [Store.get_set]; simp
    · rw [Store.get_set_ne _ e]
      rcases hx with hx | hx
      · exact absurd hx e
      · exact h.own x hx

theorem Keeps.new {f : Nat} (hf : σ f = none) (o : AObj) : Keeps σ F (σ.set f o) (fun x => x = f ∨ F x) := fun x o' hx hn =>
  ⟨by rw [Store.get_set_ne _ (Store.fresh_ne hf hx)]; exact hx, fun hc => by
    rcases hc with rfl | hc
    · rw [hf] at hx; cases hx
    · exact hn hc⟩

theorem Dk.Ok.setf {D : Dk} (h : D.Ok) (f : Nat) {c : List UInt8} {k : Int} (h0 : 0 ≤ k) (h1 : k ≤ c.length) (h2 : c.length ≤ 10000000) : (D.setf f c k).Ok := by
  have hs : ∀ x, D.fl x ≠ none → (D.setf f c k).fl x ≠ none := fun x hx => by
    simp only [Dk.setf]; split
    · simp
    · exact hx
  refine ⟨h.l0, h.l1, h.r0, h.r1, fun p hp => hs _ (h.now p hp), fun p hp => hs _ (h.kept p hp), fun x hx hn => ?_, fun g c' k' hg => ?_, h.n1, h.n2, h.n3⟩
  · obtain ⟨f', e1, e2⟩ := h.chg x hx hn; exact ⟨f', e1, hs _ e2⟩
  · simp only [Dk.setf] at hg
    split at hg
    · injection hg with hg; injection hg with e1 e2; subst e1 e2; exact ⟨h0, h1, h2⟩
    · exact h.fl g c' k' hg

theorem create_d (hD : DiskAt σ F d D) (hok : D.Ok) (name : ByteArray) (R : AV → Store → Prop)
    (r0 : D.createE name ≠ 0 → ∀ σ', DiskAt σ' F d D.rdy.1 → Keeps σ F σ' F → R (i64 (D.createE name)) σ')
    (r1 : D.createE name = 0 → ∀ nf, D.fl nf = none → ∀ σ' F', DiskAt σ' F' d (D.created name nf) → Keeps σ F σ' F' → R (i64 0) σ') :
    ACalls P 38 [ptrA d, .val (.string name)] σ R := by
  refine AInv.seen (AInv.of_body ok Try.func38 rfl (by decide) rfl ?_)
  conv => whnf
  refine ready_d hD hok _ fun σ' h1 h2 => ?_
  conv => whnf
  refine bcase_intro (fun hb => ?_) (fun hb => ?_) <;> (try rw [hb]); conv => whnf
  · have he : D.rdy.2 ≠ 0 := by simpa using hb
    have hs : D.createE name = D.rdy.2 := by unfold Dk.createE; rw [if_pos he]
    rw [hs] at r0
    exact seen (r0 he _ h1 h2)
  · have he : D.rdy.2 = 0 := by simpa using hb
    conv => whnf
    refine disk_right name _ _ ?_
    conv => whnf
    refine bcase_intro (fun hb => ?_) (fun hb => ?_) <;> (try rw [hb]); conv => whnf
    · have hb' : rightN name = false := by
        have hb2 : (!rightN name) = true := hb
        simpa only [Bool.not_eq_true'] using hb2
      have hs : D.createE name = 1 := by unfold Dk.createE; rw [if_neg (by simp [he]), if_pos hb']
      rw [hs] at r0
      exact seen (r0 (by decide) _ h1 h2)
    · have hb' : rightN name = true := by
        have hb2 : (!rightN name) = false := hb
        simpa only [Bool.not_eq_false'] using hb2
      have h1' := h1
      obtain ⟨m1, m2, ob, es1, c1, es2, c2, h⟩ := h1
      conv => whnf
      refine ⟨_, h.hd, ?_⟩
      conv => whnf
      refine lookup_rule ok keyS rfl rfl rfl (m := m1) (k := name) h.h1 h.l1 trivial (fun _ _ => trivial) (fun v hv => ?_) (fun hv => ?_)
      · rw [assoc_encN, Dk.rdy_now] at hv
        obtain ⟨f, hf, rfl⟩ := Option.map_eq_some_iff.1 hv
        have hs : D.createE name = 4 := by unfold Dk.createE; rw [if_neg (by simp [he]), if_neg (by simp [hb']), if_pos (by simp [hf])]
        rw [hs] at r0
        conv => whnf
        exact seen (r0 (by decide) _ h1' h2)
      · rw [assoc_encN, Dk.rdy_now] at hv
        have hn : nget name D.now = none := Option.map_eq_none_iff.1 hv
        have hs : D.createE name = 0 := by unfold Dk.createE; rw [if_neg (by simp [he]), if_neg (by simp [hb']), if_neg (by simp [hn])]
        conv => whnf
        refine .inr fun nf hnf => ?_
        conv => whnf
        have hfl : D.fl nf = none := by
          cases hx : D.fl nf with
          | none => rfl
          | some p =>
            have := h.ff nf (by rw [Dk.rdy_fl, hx]; simp)
            exact absurd hnf (h.own nf this)
        have hw := weak_row (σ := σ') (b := nf) (cs := [.val (.slice none 0 0), .val (.int .i64 0)]) (cs' := fileRow [] 0) (Nat.le_refl 2) (fun i y' hy' => by
          match i with
          | 0 => injection hy' with hy'; subst hy'; exact ⟨_, rfl, fun _ _ _ hv => by cases hv; exact .sl0 _ _ _⟩
          | 1 => injection hy' with hy'; subst hy'; exact ⟨_, rfl, fun _ _ _ hv => hv⟩
          | _ + 2 => cases hy')
        refine AInv.weak (σ' := σ'.set nf (.row (fileRow [] 0))) hw.1 hw.2 ?_
        refine changed_d (h.newf hnf [] 0).at_ (hok.rdy.setf nf (by omega) (by simp) (by simp)) ⟨noName, name, some nf⟩ (fun _ => by simp) _ fun a σ'' F'' h3 h4 => ?_
        conv => whnf
        exact seen (r1 hs nf hfl _ _ h3 (h2.trans ((Keeps.new hnf _).trans h4)))

end Go.Cr.Try

namespace Go.Cr.Try
open Go Go.Cr Go.Proofs

variable {σ : Store} {F : Nat → Prop} {d : Nat} {D : Dk}

theorem append_d (hD : DiskAt σ F d D) (hok : D.Ok) (name : ByteArray) (b : List UInt8) (hbl : b.length ≤ 10000000) (R : AV → Store → Prop)
    (hR : ∀ σ', DiskAt σ' F d (D.append name b).1 → Keeps σ F σ' F → R (i64 (D.append name b).2) σ') :
    ACalls P 28 [ptrA d, .val (.string name), bys b] σ R := by
  refine AInv.seen (AInv.of_body ok Try.func28 rfl (by decide) rfl ?_)
  conv => whnf
  refine find_d hD hok name _ (fun he σ' h1 h2 => ?_) (fun he hn σ' h1 h2 => ?_) (fun he f hf σ' h1 h2 => ?_)
  · conv => whnf
    have hs : D.append name b = D.rdy := by unfold Dk.append; rw [if_pos he]
    have e1 : (D.rdy.2 != 0) = true := by simpa using he
    rw [e1]
    conv => whnf
    rw [hs] at hR
    exact seen (hR _ h1 h2)
  · conv => whnf
    have hs : D.append name b = (D.rdy.1, 2) := by unfold Dk.append; rw [if_neg (by simp [he]), hn]
    rw [hs] at hR
    exact seen (hR _ h1 h2)
  · conv => whnf
    refine AW.draw ok mixed rfl rfl ?_
    conv => whnf
    have h1' := h1
    obtain ⟨m1, m2, ob, es1, c1, es2, c2, h⟩ := h1
    have hfl : D.fl f ≠ none := by
      obtain ⟨p, hp, e⟩ : ∃ p ∈ D.now, p.2 = f := nget_mem hf
      rw [← e]; exact hok.now p hp
    obtain ⟨⟨c, k⟩, hc⟩ := Option.ne_none_iff_exists'.1 hfl
    have hbc : D.bytes f = c := by simp [Dk.bytes, hc]
    have hkc : D.kp f = k := by simp [Dk.kp, hc]
    have hlc := hok.fl f c k hc
    have hu := hok.used_le
    have e2 : IntKind.wrap .i64 ((D.rdy.1.used : Int) + (((b.map u8).length : Nat) : Int)) = (D.used : Int) + (b.length : Int) := by
      rw [Dk.rdy_used, List.length_map, wrap64 (by omega) (by omega)]
    refine ⟨?_, ?_⟩ <;> conv => whnf
    focus
      refine used_v h1' hok.rdy _ ?_
      conv => whnf
      refine ⟨_, h.hd, ?_⟩
      conv => whnf
    rotate_left
    focus
      refine ⟨_, h.hd, ?_⟩
      conv => whnf
      refine used_v h1' hok.rdy _ ?_
      conv => whnf
    all_goals
      rw [e2]
      refine bcase_intro (fun hb => ?_) (fun hb => ?_)
      · have hb' : (D.used : Int) + b.length > D.room := by
          have hb2 : decide ((D.used : Int) + (b.length : Int) > D.rdy.1.room) = true := hb
          rw [Dk.rdy_room] at hb2; exact of_decide_eq_true hb2
        rw [hb]
        conv => whnf
        have hs : D.append name b = (D.rdy.1, 41) := by unfold Dk.append; rw [if_neg (by simp [he]), hf]; dsimp only; rw [if_pos hb']
        rw [hs] at hR
        exact seen (hR _ h1' h2)
      · have hb' : ¬ ((D.used : Int) + b.length > D.room) := by
          have hb2 : decide ((D.used : Int) + (b.length : Int) > D.rdy.1.room) = false := hb
          rw [Dk.rdy_room] at hb2; exact of_decide_eq_false hb2
        rw [hb]
        conv => whnf
        have hs : D.append name b = (D.rdy.1.setf f (D.bytes f ++ b) (D.kp f), 0) := by unfold Dk.append; rw [if_neg (by simp [he]), hf]; dsimp only; rw [if_neg hb']
        rw [hs, hbc, hkc] at hR
        have hc' : D.rdy.1.fl f = some (c, k) := by rw [Dk.rdy_fl]; exact hc
        refine ⟨_, h.fl f c k hc', ?_⟩
        conv => whnf
        intro t ht
        conv => whnf
        refine AInv.frz1 (Frz.byss2 ht) (concat_v [c, b] _ _ (by simp; omega) (by simp) ?_)
        conv => whnf
        refine ⟨_, h.fl f c k hc', by show 0 + 0 + 1 ≤ 2; omega, ?_⟩
        conv => whnf
        have e3 : [c, b].flatten = c ++ b := by simp
        rw [e3]
        exact seen (hR _ (h.setf (by rw [hc']; simp) (c ++ b) k).at_ (h2.trans (Keeps.own (h.ff f (by rw [hc']; simp)))))

end Go.Cr.Try

namespace Go.Cr.Try
open Go Go.Cr Go.Proofs

theorem sortB_eq {l l' : List ByteArray} (h : l.Perm l') : sortB l = sortB l' := by
  refine List.Perm.eq_of_pairwise (le := fun a b => toL a ≤ toL b) (fun a b _ _ h1 h2 => ?_) (sortB_sorted l) (sortB_sorted l') ((sortB_perm l).trans (h.trans (sortB_perm l').symm))
  have := List.le_antisymm h1 h2
  rw [← ofL_toL a, ← ofL_toL b, this]

/-- The key of an entry. -/
def keyAt (l : List (ByteArray × Value)) (j : Nat) : ByteArray := match l[j]? with
  | some p => p.1
  | none => noName
theorem range_keys (l : List (ByteArray × Value)) : (List.range l.length).map (keyAt l) = l.map (·.1) := by
  apply List.ext_getElem?
  intro i
  by_cases hi : i < l.length
  · simp [hi, keyAt]
  · simp [hi]

def outN (b : Option Nat) (n : Nat) : AV := match b with
  | none => .val (.slice none 0 0)
  | some b => .arr b 0 n 1
def outNS (σ : Store) (ob : Option Nat) (l : List ByteArray) : Store := match ob with
  | none => σ
  | some b => σ.set b (.row (l.map strA))

theorem str_flat : ∀ l : List ByteArray, (l.map strA).flatMap AV.cells = l.map strA
  | [] => rfl
  | s :: l => by simp only [List.map_cons, List.flatMap_cons, str_flat l]; rfl

theorem sorted_v (m : Nat) (es : Array MapEntry) (clock : Nat) (l : List (ByteArray × Value)) (σ : Store) (hm : σ m = some (.raw (.map es clock))) (hl : MapIs Value.string es clock l) (hn : l.length ≤ 10000000) (R : AV → Store → Prop)
    (hR : R (.sl 1 ((sortB (l.map (·.1))).map strA)) σ) : ACalls P 16 [.val (.map (some m))] σ R := by
  refine AInv.seen (AInv.of_body ok Try.func16 rfl (by decide) rfl ?_)
  conv => whnf
  refine range_rule ok rfl rfl (m := m) hm fun r hr => ?_
  conv => whnf
  have hmr : m ≠ r := Store.fresh_ne hr hm
  have hes := hl.size
  refine AW.loop ok (ι := List Nat × Option Nat × Array Nat)
    (fun i => IterIs es i.1 i.2.2 ∧ (i.2.1 = none → i.1 = []) ∧ ∀ b, i.2.1 = some b → σ b = none ∧ b ≠ r)
    (fun i => [(6, ptrA r), (3, outN i.2.1 i.1.length)])
    (fun i => (outNS σ i.2.1 (i.1.map (keyAt l))).set r (.raw (.mapIter (some m) clock i.2.2 clock)))
    (fun i => es.size - i.1.length) ([], none, #[]) ⟨.empty _, fun _ => rfl, by simp⟩ (.cons rfl (.cons rfl (.nil _))) (.refl _) ?_
  rintro ⟨done, ob, seen⟩ ⟨hit, hno, hso⟩
  dsimp only at hit hno hso ⊢
  have hmo : outNS σ ob (done.map (keyAt l)) m = some (.raw (.map es clock)) := by
    cases ob with
    | none => exact hm
    | some b => show (σ.set b _) m = _; rw [Store.get_set_ne _ (Store.fresh_ne (hso b rfl).1 hm)]; exact hm
  conv => whnf
  refine next_rule (m := m) (r := r) (Store.get_set _ _ _) (by rw [Store.get_set_ne _ hmr]; exact hmo) hl hit (fun hall => ?_) (fun j p seen' hp hj hit' => ?_)
  · have hperm := IterIs.all hit (fun j hj => hall j (by rw [← hes]; exact hj))
    have hlen : done.length = l.length := by rw [hperm.length_eq, List.length_range, hes]
    have hks : (done.map (keyAt l)).Perm (l.map (·.1)) := by
      have := hperm.map (keyAt l)
      rw [hes, range_keys] at this; exact this
    have hsort := sortB_eq hks
    cases ob with
    | none =>
      have hd := hno rfl
      subst hd
      conv => whnf
      refine sortStr_nil (Proofs.Try.lays190) Try.func32 rfl (by decide) ?_
      conv => whnf
      refine ⟨_, _, Frz.nil (n := 1) (SubS.set (.refl _) hr _), ?_⟩
      have h0 : l = [] := List.eq_nil_of_length_eq_zero hlen.symm
      rw [h0] at hR
      have e0 : (sortB (([] : List (ByteArray × Value)).map (·.1))).map strA = [] := List.eq_nil_of_length_eq_zero (by rw [List.length_map, sortB_length]; rfl)
      rw [e0] at hR; exact hR
    | some b =>
      have hb := hso b rfl
      conv => whnf
      have hrow : ((outNS σ (some b) (done.map (keyAt l))).set r (.raw (.mapIter (some m) clock seen clock))) b = some (.row ((done.map (keyAt l)).map strA)) := by
        rw [Store.get_set_ne _ hb.2]; exact Store.get_set _ _ _
      have e1 : done.length = (done.map (keyAt l)).length := (List.length_map _).symm
      rw [e1]
      refine sortStr_rule (Proofs.Try.lays190) Try.func32 rfl (by decide) hrow (by rw [List.length_map]; omega) ?_
      conv => whnf
      refine ⟨_, _, Frz.sl (l := (sortB (done.map (keyAt l))).map strA) (Store.get_set _ _ _) ?_ hb.1 ?_ ?_ ?_, hsort ▸ hR⟩
      · show SubS (((σ.set b _).set r _).set b _) σ
        refine SubS.set (SubS.set (SubS.set (.refl _) hb.1 _) hr _) hb.1 _
      · rw [List.length_map, sortB_length]
      · intro x hx; obtain ⟨s, _, rfl⟩ := List.mem_map.1 hx; rfl
      · rw [str_flat, List.drop_zero, List.take_of_length_le (by simp [sortB_length])]
  · conv => whnf
    refine entry_rule (m := m) (r := r) (Store.get_set _ _ _) (by rw [Store.get_set_ne _ hmr, Store.get_set_ne _ hmr]; exact hmo) hl hit' hp ?_
    conv => whnf
    intro t ht
    conv => whnf
    have hk : keyAt l j = p.1 := by simp [keyAt, hp]
    have hl1 : (done ++ [j]).length = done.length + 1 := by simp
    have hmap1 : (done ++ [j]).map (keyAt l) = done.map (keyAt l) ++ [p.1] := by simp [hk]
    have hlen := IterIs.len hit'
    rw [hl1, hes] at hlen
    have ht2 := Store.set_fresh ht
    have ht3 := Store.set_fresh ht2.2
    refine ⟨_, Store.get_set _ _ _, Nat.le_refl 1, ?_⟩
    cases ob with
    | none =>
      have hd := hno rfl
      subst hd
      conv => whnf
      refine ⟨by show 1 * 16 ≤ 140737488355328; omega, by omega, fun h0 => absurd h0 (by omega), fun _ b' hb' => ?_⟩
      conv => whnf
      have hb2 := Store.set_fresh hb'
      have hb3 := Store.set_fresh hb2.2
      have hb4 := Store.set_fresh hb3.2
      refine ⟨([] ++ [j], some b', seen'), ⟨hit', by simp, fun b'' e => by injection e with e; subst e; exact ⟨hb4.2, hb3.1⟩⟩, by dsimp only; rw [hl1, hes]; simp only [List.length_nil] at hlen ⊢; omega, .cons rfl (.cons rfl (.nil _)), ?_⟩
      dsimp only
      rw [hmap1]
      show SubS (((((σ.set r _).set r _).set t _)).set b' _) ((σ.set b' _).set r _)
      rw [Store.set_set, Store.set_comm (σ := σ) hb3.1]
      refine SubS.set2 (SubS.set (.refl _) ?_ _) b' _
      rw [Store.get_set_ne _ ht2.1]; exact ht3.2
    | some b =>
      have hb := hso b rfl
      conv => whnf
      have ht4 : t ≠ b ∧ σ t = none := Store.set_fresh ht3.2
      have hbt : b ≠ t := Ne.symm ht4.1
      refine ⟨_, by rw [Store.get_set_ne _ hbt, Store.get_set_ne _ hb.2, Store.get_set_ne _ hb.2]; exact Store.get_set _ _ _, rfl, by rw [List.length_map, List.length_map, Nat.mul_one], by show (done.length + 1) * 16 ≤ 140737488355328; omega, by omega, fun b' hb' => ?_⟩
      conv => whnf
      have hsub : ∀ o, SubS (((((σ.set b (.row ((done.map (keyAt l)).map strA))).set r (.raw (.mapIter (some m) clock seen clock))).set r (.raw (.mapIter (some m) clock seen' clock))).set t o).del b) (σ.set r (.raw (.mapIter (some m) clock seen' clock))) := fun o => by
        rw [Store.set_set]
        have h1 : SubS ((σ.set b (.row ((done.map (keyAt l)).map strA))).set r (.raw (.mapIter (some m) clock seen' clock))) (σ.set r (.raw (.mapIter (some m) clock seen' clock))) := (SubS.set (.refl _) hb.1 _).set2 r _
        refine SubS.del (SubS.set h1 ?_ o) ?_
        · rw [Store.get_set_ne _ ht2.1]; exact ht4.2
        · rw [Store.get_set_ne _ hb.2]; exact hb.1
      have hb3 := Store.set_fresh ((hsub _).none_ hb')
      refine ⟨(done ++ [j], some b', seen'), ⟨hit', by simp, fun b'' e => by injection e with e; subst e; exact ⟨hb3.2, hb3.1⟩⟩, by dsimp only; rw [hl1, hes]; omega, .cons rfl (.cons (by dsimp only; rw [hl1]; rfl) (.nil _)), ?_⟩
      dsimp only
      rw [hmap1]
      show SubS (Store.set _ b' _) ((σ.set b' (.row ((done.map (keyAt l) ++ [p.1]).map strA))).set r _)
      rw [Store.set_comm (σ := σ) hb3.1, List.map_append]
      exact SubS.set2 (hsub _) b' _

end Go.Cr.Try

namespace Go.Cr.Try
open Go Go.Cr Go.Proofs

instance : LawfulBEq ByteArray where
  eq_of_beq h := (MapKept.bytes_beq _ _).1 h
  rfl := (MapKept.bytes_beq _ _).2 rfl

/-! ### Crashes: plain -/

structure Wrk where
  names : Int
  bytes : List Int
def Wrk.left (w : Wrk) (i : Nat) (most : Int) : Int :=
  if 0 < w.bytes.length then
    (let x := w.bytes.getD (i % w.bytes.length) 0
     let y := if 0 > x then 0 else x
     if most < y then most else y)
  else 0
def Dk.crashN (D : Dk) (w : Wrk) : Nat := min (if 0 > w.names then 0 else w.names).toNat D.chg.length
def Dk.crashAt (D : Dk) (w : Wrk) : Nm := (D.chg.take (D.crashN w)).foldl doN D.kept
def Dk.order (D : Dk) (w : Wrk) : List ByteArray := sortB ((D.crashAt w).map (·.1))
def Dk.cutN (D : Dk) (w : Wrk) (s : ByteArray) (f : Nat) : Int := D.kp f + w.left ((D.order w).idxOf s) ((D.bytes f).length - D.kp f)
def Dk.crash (D : Dk) (w : Wrk) (g : ByteArray → Nat) : Dk where
  now := (D.crashAt w).map fun p => (p.1, g p.1)
  kept := (D.crashAt w).map fun p => (p.1, g p.1)
  chg := []
  room := D.room
  down := false
  doomed := false
  left := 0
  fl b := ((D.crashAt w).find? fun p => g p.1 == b).map fun p => ((D.bytes p.2).take (D.cutN w p.1 p.2).toNat, D.cutN w p.1 p.2)

def ndKeys (l : Nm) : Prop := (l.map (·.1)).Nodup
theorem mem_nput {k : ByteArray} {f : Nat} {p : ByteArray × Nat} : ∀ {l : Nm}, p ∈ nput k f l → p = (k, f) ∨ p ∈ l
  | [], h => by simp only [nput, List.mem_singleton] at h; exact .inl h
  | q :: l, h => by
    simp only [nput] at h
    split at h
    · rcases List.mem_cons.1 h with h | h
      · exact .inl h
      · exact .inr (List.mem_cons_of_mem _ h)
    · rcases List.mem_cons.1 h with h | h
      · exact .inr (h ▸ List.mem_cons_self)
      · rcases mem_nput h with h | h
        · exact .inl h
        · exact .inr (List.mem_cons_of_mem _ h)
theorem mem_ndel {k : ByteArray} {p : ByteArray × Nat} : ∀ {l : Nm}, p ∈ ndel k l → p ∈ l
  | [], h => by cases h
  | q :: l, h => by
    simp only [ndel] at h
    split at h
    · exact List.mem_cons_of_mem _ h
    · rcases List.mem_cons.1 h with h | h
      · exact h ▸ List.mem_cons_self
      · exact List.mem_cons_of_mem _ (mem_ndel h)
theorem mem_doN {c : Chn} {p : ByteArray × Nat} {l : Nm} (h : p ∈ doN l c) : (c.new ≠ noName ∧ c.file = some p.2 ∧ p.1 = c.new) ∨ p ∈ l := by
  unfold doN at h
  split at h
  · exact .inr (mem_ndel h)
  · rename_i hn
    split at h
    · exact .inr (mem_ndel h)
    · rename_i f hf
      rcases mem_nput h with h | h
      · subst h; exact .inl ⟨hn, hf, rfl⟩
      · exact .inr (mem_ndel h)

theorem nd_ndel {k : ByteArray} {l : Nm} (h : ndKeys l) : ndKeys (ndel k l) ∧ ∀ p ∈ ndel k l, p.1 ≠ k := by
  induction l with
  | nil => exact ⟨h, by simp [ndel]⟩
  | cons q l ih =>
    unfold ndKeys at h
    rw [List.map_cons, List.nodup_cons] at h
    obtain ⟨ih1, ih2⟩ := ih h.2
    simp only [ndel]
    split
    · rename_i e
      refine ⟨h.2, fun p hp e2 => h.1 ?_⟩
      rw [← e, ← e2]; exact List.mem_map_of_mem hp
    · rename_i e
      refine ⟨?_, fun p hp => ?_⟩
      · unfold ndKeys
        rw [List.map_cons, List.nodup_cons]
        refine ⟨fun hm => ?_, ih1⟩
        obtain ⟨p, hp, e2⟩ := List.mem_map.1 hm
        exact h.1 (e2 ▸ List.mem_map_of_mem (mem_ndel hp))
      · rcases List.mem_cons.1 hp with hp | hp
        · subst hp; exact fun e2 => e e2.symm
        · exact ih2 p hp
theorem nput_new {k : ByteArray} {f : Nat} : ∀ {l : Nm}, (∀ p ∈ l, p.1 ≠ k) → nput k f l = l ++ [(k, f)]
  | [], _ => rfl
  | q :: l, h => by
    simp only [nput]
    rw [if_neg (fun e => h q List.mem_cons_self e.symm), nput_new fun p hp => h p (List.mem_cons_of_mem _ hp)]; rfl
theorem nput_old {k : ByteArray} {f : Nat} : ∀ {l : Nm}, ndKeys l → k ∈ l.map (·.1) → nput k f l = l.map fun p => if p.1 = k then (k, f) else p
  | [], _, h => by cases h
  | q :: l, hn, h => by
    unfold ndKeys at hn
    rw [List.map_cons, List.nodup_cons] at hn
    simp only [nput, List.map_cons]
    by_cases e : k = q.1
    · rw [if_pos e, if_pos e.symm]
      congr 1
      refine (List.map_id l).symm.trans (List.map_congr_left fun p hp => ?_)
      rw [if_neg (fun e2 => hn.1 (by rw [← e, ← e2]; exact List.mem_map_of_mem hp))]; rfl
    · rw [if_neg e, if_neg (fun e2 => e e2.symm)]
      congr 1
      rw [List.map_cons] at h
      rcases List.mem_cons.1 h with h | h
      · exact absurd h e
      · exact nput_old hn.2 h
theorem nd_nput {k : ByteArray} {f : Nat} {l : Nm} (h : ndKeys l) : ndKeys (nput k f l) := by
  by_cases hk : k ∈ l.map (·.1)
  · rw [nput_old h hk]
    unfold ndKeys
    have : (l.map fun p => if p.1 = k then (k, f) else p).map (·.1) = l.map (·.1) := by
      rw [List.map_map]
      refine List.map_congr_left fun p _ => ?_
      show (if p.1 = k then (k, f) else p).1 = p.1
      split
      · rename_i e; exact e.symm
      · rfl
    rw [this]; exact h
  · rw [nput_new fun p hp (e : p.1 = k) => hk (e ▸ List.mem_map_of_mem hp)]
    unfold ndKeys
    rw [List.map_append, List.nodup_append]
    exact ⟨h, by simp, fun a ha b hb => by simp at hb; subst hb; exact fun e => hk (e ▸ ha)⟩
theorem nd_doN {c : Chn} {l : Nm} (h : ndKeys l) : ndKeys (doN l c) := by
  unfold doN
  split
  · exact (nd_ndel h).1
  · split
    · exact (nd_ndel h).1
    · exact nd_nput (nd_ndel h).1
theorem nd_fold {l : Nm} (h : ndKeys l) (cs : List Chn) : ndKeys (cs.foldl doN l) := by
  induction cs generalizing l with
  | nil => exact h
  | cons c cs ih => exact ih (nd_doN h)
theorem mem_fold {l : Nm} {cs : List Chn} {p : ByteArray × Nat} (h : p ∈ cs.foldl doN l) : (∃ c ∈ cs, c.new ≠ noName ∧ c.file = some p.2 ∧ p.1 = c.new) ∨ p ∈ l := by
  induction cs generalizing l with
  | nil => exact .inr h
  | cons c cs ih =>
    rcases ih h with ⟨c', h1, h2⟩ | h
    · exact .inl ⟨c', List.mem_cons_of_mem _ h1, h2⟩
    · rcases mem_doN h with h | h
      · exact .inl ⟨c, List.mem_cons_self, h⟩
      · exact .inr h
theorem nget_of_mem {l : Nm} (h : ndKeys l) {p : ByteArray × Nat} (hp : p ∈ l) : nget p.1 l = some p.2 := by
  induction l with
  | nil => cases hp
  | cons q l ih =>
    unfold ndKeys at h
    rw [List.map_cons, List.nodup_cons] at h
    simp only [nget]
    rcases List.mem_cons.1 hp with hp | hp
    · subst hp; rw [if_pos rfl]
    · rw [if_neg (fun e : p.1 = q.1 => h.1 (e ▸ List.mem_map_of_mem hp))]; exact ih h.2 hp
theorem nget_mem2 {k : ByteArray} {f : Nat} : ∀ {l : Nm}, nget k l = some f → (k, f) ∈ l
  | [], h => by cases h
  | p :: l, h => by
    simp only [nget] at h
    split at h
    · rename_i e; injection h with h; subst h e; exact List.mem_cons_self
    · exact List.mem_cons_of_mem _ (nget_mem2 h)
theorem nd_enc {es : Array MapEntry} {ck : Nat} {l : Nm} (h : MapIs Value.string es ck (encN l)) : ndKeys l := by
  have := h.nodup
  unfold ndKeys
  simpa [encN, List.map_map, Function.comp_def] using this

theorem len_ndel (k : ByteArray) (l : Nm) : (ndel k l).length ≤ l.length := by
  induction l with
  | nil => simp [ndel]
  | cons q l ih => simp only [ndel]; split <;> simp only [List.length_cons] <;> omega
theorem len_nput (k : ByteArray) (f : Nat) (l : Nm) : (nput k f l).length ≤ l.length + 1 := by
  induction l with
  | nil => simp [nput]
  | cons q l ih => simp only [nput]; split <;> simp only [List.length_cons] <;> omega
theorem len_doN (c : Chn) (l : Nm) : (doN l c).length ≤ l.length + 1 := by
  have := len_ndel c.gone l
  unfold doN
  split
  · omega
  · split
    · omega
    · have := len_nput c.new ‹Nat› (ndel c.gone l); omega
theorem len_fold (cs : List Chn) (l : Nm) : (cs.foldl doN l).length ≤ l.length + cs.length := by
  induction cs generalizing l with
  | nil => simp
  | cons c cs ih => have := ih (doN l c); have := len_doN c l; simp only [List.foldl_cons, List.length_cons]; omega

theorem Dk.Ok.crashAt {D : Dk} (h : D.Ok) (w : Wrk) : (∀ p ∈ D.crashAt w, D.fl p.2 ≠ none) ∧ (D.crashAt w).length ≤ 2000000 := by
  refine ⟨fun p hp => ?_, ?_⟩
  · rcases mem_fold hp with ⟨c, h1, h2, h3, _⟩ | hp
    · obtain ⟨f, e1, e2⟩ := h.chg c (List.mem_of_mem_take h1) h2
      rw [h3] at e1; injection e1 with e1; rw [e1]; exact e2
    · exact h.kept p hp
  · have h1 := len_fold (D.chg.take (D.crashN w)) D.kept
    have h2 := h.n2
    have h3 := h.n3
    have h4 : (D.chg.take (D.crashN w)).length ≤ D.chg.length := by rw [List.length_take]; omega
    unfold Dk.crashAt
    omega

/-- Files that were made for the first names, in their order. -/
def rep (L : List ByteArray) (gs : List Nat) (p : ByteArray × Nat) : ByteArray × Nat := (p.1, match gs[L.idxOf p.1]? with
  | some g => g
  | none => p.2)

theorem rep_keys (L : List ByteArray) (gs : List Nat) (l : Nm) : (l.map (rep L gs)).map (·.1) = l.map (·.1) := by
  rw [List.map_map]; rfl

theorem rep_step {L : List ByteArray} (hL : L.Nodup) {l : Nm} (hl : ndKeys l) (hm : ∀ p ∈ l, p.1 ∈ L) {gs : List Nat} {s : ByteArray} (hs : L[gs.length]? = some s) (hsl : s ∈ l.map (·.1)) (nf : Nat) :
    nput s nf (l.map (rep L gs)) = l.map (rep L (gs ++ [nf])) := by
  have hlt : gs.length < L.length := (List.getElem?_eq_some_iff.1 hs).1
  have hsi : L.idxOf s = gs.length := by
    have e := (List.getElem?_eq_some_iff.1 hs).2
    rw [← e]; exact hL.idxOf_getElem _ _
  rw [nput_old (by unfold ndKeys; rw [rep_keys]; exact hl) (by rw [rep_keys]; exact hsl), List.map_map]
  refine List.map_congr_left fun p hp => ?_
  show (if p.1 = s then (s, nf) else rep L gs p) = rep L (gs ++ [nf]) p
  by_cases e : p.1 = s
  · rw [if_pos e]
    simp only [rep, e, hsi, List.getElem?_append_right (Nat.le_refl _), Nat.sub_self]; rfl
  · rw [if_neg e]
    have hne : L.idxOf p.1 ≠ gs.length := fun e2 => by
      have h1 := List.getElem_idxOf (List.idxOf_lt_length_of_mem (hm p hp))
      have h2 : L[L.idxOf p.1]? = some p.1 := by rw [List.getElem?_eq_getElem (List.idxOf_lt_length_of_mem (hm p hp)), h1]
      rw [e2, hs] at h2; injection h2 with h2; exact e h2.symm
    simp only [rep]
    by_cases hlt2 : L.idxOf p.1 < gs.length
    · rw [List.getElem?_append_left hlt2]
    · rw [List.getElem?_append_right (by omega), List.getElem?_eq_none (by omega), List.getElem?_eq_none (by simp; omega)]

end Go.Cr.Try

namespace Go.Cr.Try
open Go Go.Cr Go.Proofs

variable {σ : Store} {F : Nat → Prop} {d : Nat} {D : Dk}

def ints (l : List Int) : AV := .sl 1 (l.map fun n => i64 n)
def Wrk.av (w : Wrk) : AV := .agg [i64 w.names, ints w.bytes]

theorem Wrk.left_le (w : Wrk) (i : Nat) {m : Int} (hm : 0 ≤ m) : 0 ≤ w.left i m ∧ w.left i m ≤ m := by
  unfold Wrk.left
  dsimp only
  split
  · split <;> split <;> omega
  · omega

structure CrashI (σ : Store) (D : Dk) (w : Wrk) (m : Nat) (i : Nat) (gs : List Nat) (es : Array MapEntry) (ck : Nat) (σ' : Store) : Prop where
  le : i ≤ (D.order w).length
  len : gs.length = i
  nd : gs.Nodup
  fr : ∀ g ∈ gs, σ g = none ∧ g ≠ m
  hm : σ' m = some (.raw (.map es ck))
  hl : MapIs Value.string es ck (encN ((D.crashAt w).map (rep (D.order w) gs)))
  hf : ∀ p ∈ D.crashAt w, ∀ g, gs[(D.order w).idxOf p.1]? = some g → σ' g = some (.row (fileRow ((D.bytes p.2).take (D.cutN w p.1 p.2).toNat) (D.cutN w p.1 p.2)))
  keep : ∀ b o, σ b = some o → σ' b = some o

set_option maxRecDepth 10000 in
theorem crash_d (hD : DiskAt σ F d D) (hok : D.Ok) (w : Wrk) (hw : w.bytes.length ≤ 1000000) (R : AV → Store → Prop)
    (hR : ∀ g : ByteArray → Nat, (∀ p ∈ D.crashAt w, ∀ q ∈ D.crashAt w, g p.1 = g q.1 → p = q) → (∀ p ∈ D.crashAt w, D.fl (g p.1) = none) → ∀ σ' F', DiskAt σ' F' d (D.crash w g) → Keeps σ F σ' F' → R (i64 0) σ') :
    ACalls P 9 [ptrA d, w.av] σ R := by
  obtain ⟨m1, m2, ob, es1, c1, es2, c2, h⟩ := hD
  have hnk : ndKeys D.kept := nd_enc h.l2
  have hna : ndKeys (D.crashAt w) := nd_fold hnk _
  refine AInv.seen (AInv.of_body ok Try.func9 rfl (by decide) rfl ?_)
  conv => whnf
  refine .inl ?_
  conv => whnf
  refine ⟨_, h.hd, ?_⟩
  conv => whnf
  refine mapsClone_v m2 es2 c2 σ h.h2 _ fun m hm => ?_
  conv => whnf
  have hdm : d ≠ m := Store.fresh_ne hm h.hd
  refine AW.draw ok mixed rfl rfl ?_
  conv => whnf
  refine ⟨_, by rw [Store.get_set_ne _ hdm]; exact h.hd, ?_⟩
  conv => whnf
  cases ob
  focus
    have hc0 : D.chg = [] := by simpa [ChgAt] using h.hc
    have hk0 : D.crashAt w = D.kept := by simp [Dk.crashAt, hc0]
    refine ⟨_, by rw [Store.get_set_ne _ hdm]; exact h.hd, ?_⟩
    conv => whnf
    refine ⟨by split <;> split <;> omega, rfl, ?_⟩
    conv => whnf
    refine AW.loop ok (ι := Unit) (fun _ => True) (fun _ => [(35, i64 0), (34, i64 ((0 : Nat) : Int)), (5, .val (.map (some m))), (3, .iptr w.av.cells), (0, ptrA d)]) (fun _ => σ.set m (.raw (.map es2 c2))) (fun _ => 0) () trivial
      (.cons rfl (.cons rfl (.cons rfl (.cons rfl (.cons rfl (.nil _)))))) (.refl _) ?_
    rintro _ _
    conv => whnf
    obtain ⟨es, ck, hes, hmp⟩ : ∃ es ck, (es = es2 ∧ ck = c2) ∧ MapIs Value.string es ck (encN (D.crashAt w)) := ⟨es2, c2, ⟨rfl, rfl⟩, by rw [hk0]; exact h.l2⟩
    rw [← hes.1, ← hes.2]
  rotate_left
  focus
    rename_i b
    have hcb : σ b = some (.row ((D.chg.map Chn.low).flatMap Chg.cells)) := h.hc
    have hbm : b ≠ m := Store.fresh_ne hm hcb
    refine ⟨_, by rw [Store.get_set_ne _ hdm]; exact h.hd, ?_⟩
    conv => whnf
    have hlm : (D.chg.map Chn.low).length = D.chg.length := List.length_map _
    have ek : (if (((D.chg.map Chn.low).length : Nat) : Int) < (if 0 > w.names then 0 else w.names) then (((D.chg.map Chn.low).length : Nat) : Int) else if 0 > w.names then 0 else w.names) = ((D.crashN w : Nat) : Int) := by
      rw [hlm]; unfold Dk.crashN; split <;> split <;> omega
    have hkl : D.crashN w ≤ D.chg.length := Nat.min_le_right _ _
    rw [ek]
    refine ⟨by omega, by omega, by rw [hlm]; omega, .inl rfl, ?_⟩
    conv => whnf
    refine AW.loop ok (ι := Nat × Array MapEntry × Nat) (fun i => i.1 ≤ D.crashN w ∧ MapIs Value.string i.2.1 i.2.2 (encN ((D.chg.take i.1).foldl doN D.kept)))
      (fun i => [(35, i64 (i.1 : Int)), (34, i64 (D.crashN w : Nat)), (33, .arr b 0 (D.crashN w) 3), (5, .val (.map (some m))), (3, .iptr w.av.cells), (0, ptrA d)])
      (fun i => σ.set m (.raw (.map i.2.1 i.2.2))) (fun i => D.crashN w - i.1) (0, es2, c2) ⟨Nat.zero_le _, h.l2⟩ (.cons rfl (.cons rfl (.cons rfl (.cons rfl (.cons rfl (.cons rfl (.nil _))))))) (.refl _) ?_
    rintro ⟨i, es, ck⟩ ⟨hi, hmp⟩
    dsimp only at hi hmp ⊢
    conv => whnf
    refine bcase_intro (fun hb => ?_) (fun hb => ?_) <;> (try rw [hb]); conv => whnf
    · have hlt : i < D.crashN w := by simp at hb; omega
      have hlt' : i < (D.chg.map Chn.low).length := by omega
      refine ⟨Int.natCast_nonneg _, by omega, ?_⟩
      conv => whnf
      refine ⟨_, by rw [Store.get_set_ne _ hbm]; exact hcb, by rw [chg_len]; show 0 + ((i : Nat) : Int).toNat * 3 + 3 ≤ _; omega, ?_⟩
      conv => whnf
      have e1 : (((D.chg.map Chn.low).flatMap Chg.cells).drop (0 + ((i : Nat) : Int).toNat * 3)).take 3 = D.chg[i].low.cells := by
        rw [Nat.zero_add, Int.toNat_natCast, chg_at _ hlt', List.getElem_map]
      dsimp only
      rw [e1]
      intro t ht
      conv => whnf
      have ht2 := Store.set_fresh ht
      have hn3 := hok.n3
      refine ⟨_, Store.get_set _ _ _, Nat.le_refl 3, ?_⟩
      have hil : i < D.chg.length := by omega
      have hci : D.chg[i]? = some D.chg[i] := List.getElem?_eq_getElem hil
      have hcok : D.chg[i].ok := fun hn => by
        obtain ⟨f, e, _⟩ := hok.chg _ (List.getElem_mem hil) hn
        rw [e]; simp
      have htk : D.chg.take (i + 1) = D.chg.take i ++ [D.chg[i]] := by rw [List.take_add_one, hci]; rfl
      generalize D.chg[i] = c at hci htk hcok ⊢
      obtain ⟨gone, new, file⟩ := c
      conv => whnf
      refine ⟨_, Store.get_set _ _ _, Nat.le_refl 3, ?_⟩
      conv => whnf
      refine do_v m es ck (encN ((D.chg.take i).foldl doN D.kept)) gone new (fileV file) _ (by rw [Store.get_set_ne _ (Ne.symm ht2.1), Store.get_set_ne _ (Ne.symm ht2.1)]; exact Store.get_set _ _ _) hmp _ fun a es' ck' h' => ?_
      conv => whnf
      have hd := doL_enc ((D.chg.take i).foldl doN D.kept) ⟨gone, new, file⟩ hcok
      refine ⟨(i + 1, es', ck'), ⟨by dsimp only; omega, ?_⟩, by dsimp only; omega, .idx rfl (by omega) (.cons rfl (.cons rfl (.cons rfl (.cons rfl (.cons rfl (.nil _)))))), ?_⟩
      · dsimp only
        rw [htk, List.foldl_append]
        show MapIs Value.string es' ck' (encN (doN _ _))
        rw [← hd]; exact h'
      · dsimp only
        rw [Store.set_set, Store.set_comm _ ht2.1, Store.set_set]
        exact SubS.set (.refl _) (by rw [Store.get_set_ne _ ht2.1]; exact ht2.2) _
    rotate_left
    have hi' : i = D.crashN w := by simp at hb; omega
    subst hi'
    replace hmp : MapIs Value.string es ck (encN (D.crashAt w)) := hmp
  all_goals
    conv => whnf
    have hca := hok.crashAt w
    have ekeys : (encN (D.crashAt w)).map (·.1) = (D.crashAt w).map (·.1) := by simp [encN, List.map_map, Function.comp_def]
    refine sorted_v m es ck (encN (D.crashAt w)) _ (Store.get_set _ _ _) hmp (by simp [encN]; omega) _ ?_
    rw [ekeys, show sortB ((D.crashAt w).map (·.1)) = D.order w from rfl]
    conv => whnf
    have hoL : (D.order w).length = (D.crashAt w).length := by rw [Dk.order, sortB_length, List.length_map]
    have hond : (D.order w).Nodup := (sortB_perm _).nodup_iff.2 hna
    have homem : ∀ s, s ∈ D.order w ↔ s ∈ (D.crashAt w).map (·.1) := fun s => (sortB_perm _).mem_iff
    refine AW.loop ok (ι := Nat × List Nat × Array MapEntry × Nat × Store) (fun i => CrashI σ D w m i.1 i.2.1 i.2.2.1 i.2.2.2.1 i.2.2.2.2)
      (fun i => [(46, i64 (i.1 : Int)), (45, i64 (((D.order w).map strA).length : Nat)), (44, .sl 1 ((D.order w).map strA)), (5, .val (.map (some m))), (3, .iptr w.av.cells), (0, ptrA d)])
      (fun i => i.2.2.2.2) (fun i => (D.order w).length - i.1) (0, [], es, ck, σ.set m (.raw (.map es ck)))
      ⟨Nat.zero_le _, rfl, List.nodup_nil, by simp, Store.get_set _ _ _, by
        have : (D.crashAt w).map (rep (D.order w) []) = D.crashAt w := by
          refine (List.map_congr_left fun p _ => ?_).trans (List.map_id _)
          simp [rep]
        dsimp only; rw [this]; exact hmp, by simp, fun b o hb => by dsimp only; rw [Store.get_set_ne _ (Store.fresh_ne hm hb)]; exact hb⟩
      (.cons rfl (.cons rfl (.cons rfl (.cons rfl (.cons rfl (.cons rfl (.nil _))))))) (.refl _) ?_
    rintro ⟨i, gs, es, ck, τ⟩ hI
    dsimp only at hI ⊢
    conv => whnf
    refine bcase_intro (fun hb => ?_) (fun hb => ?_) <;> (try rw [hb]); conv => whnf
    · have hlt : i < (D.order w).length := by simp at hb; omega
      have hsi : ((D.order w).map strA)[((i : Nat) : Int).toNat]? = some (strA (D.order w)[i]) := by simp [hlt]
      refine ⟨_, Int.natCast_nonneg _, hsi, ?_⟩
      have hos : (D.order w)[gs.length]? = some (D.order w)[i] := by rw [hI.len]; exact List.getElem?_eq_getElem hlt
      have hidx : (D.order w).idxOf (D.order w)[i] = i := hond.idxOf_getElem _ _
      have hsm := (homem _).1 (List.getElem_mem hlt)
      generalize (D.order w)[i] = s at hos hidx hsm ⊢
      obtain ⟨p, hp, rfl⟩ := List.mem_map.1 hsm
      have hpr : nget p.1 ((D.crashAt w).map (rep (D.order w) gs)) = some p.2 := by
        have h1 : rep (D.order w) gs p ∈ (D.crashAt w).map (rep (D.order w) gs) := List.mem_map_of_mem hp
        have h2 := nget_of_mem (l := (D.crashAt w).map (rep (D.order w) gs)) (by unfold ndKeys; rw [rep_keys]; exact hna) h1
        have h3 : (rep (D.order w) gs p).2 = p.2 := by simp only [rep, hidx]; rw [List.getElem?_eq_none (by rw [hI.len]; omega)]
        rw [h3] at h2; exact h2
      conv => whnf
      refine lookup_rule ok keyS rfl rfl rfl (m := m) (k := p.1) hI.hm hI.hl trivial (fun _ _ => trivial) (fun v hv => ?_) (fun hv => ?_)
      rotate_left
      · rw [assoc_encN, hpr] at hv; cases hv
      rw [assoc_encN, hpr] at hv
      injection hv with hv
      subst hv
      have hfl := hca.1 p hp
      obtain ⟨⟨c, k⟩, hc⟩ := Option.ne_none_iff_exists'.1 hfl
      have hrow := hI.keep _ _ (h.fl p.2 c k hc)
      have hck := hok.fl p.2 c k hc
      have hbc : D.bytes p.2 = c := by simp [Dk.bytes, hc]
      have hkc : D.kp p.2 = k := by simp [Dk.kp, hc]
      have hcut : D.cutN w p.1 p.2 = k + w.left i (c.length - k) := by unfold Dk.cutN; rw [hbc, hkc, hidx]
      conv => whnf
      have hbl : (w.bytes.map fun n => i64 n).length = w.bytes.length := List.length_map _
      refine bcase_intro (fun hb => ?_) (fun hb => ?_) <;> rw [hb]
      focus
        have hb0 : 0 < w.bytes.length := by
          have hb2 : decide (0 < (((w.bytes.map fun n => i64 n).length : Nat) : Int)) = true := hb
          rw [hbl] at hb2; simpa using hb2
        conv => whnf
        refine AW.draw ok mixed rfl rfl ?_
        conv => whnf
        rw [hbl]
        refine ⟨by omega, ?_⟩
        have emod : Int.tmod ((i : Nat) : Int) ((w.bytes.length : Nat) : Int) = ((i % w.bytes.length : Nat) : Int) := by
          rw [Int.tmod_eq_emod_of_nonneg (by omega)]; exact (Int.natCast_emod _ _).symm
        have hil : i % w.bytes.length < w.bytes.length := Nat.mod_lt _ hb0
        have hbx : (w.bytes.map fun n => i64 n)[(((i % w.bytes.length : Nat) : Int)).toNat]? = some (i64 w.bytes[i % w.bytes.length]) := by
          rw [Int.toNat_natCast, List.getElem?_map, List.getElem?_eq_getElem hil]; rfl
        have hbx2 : w.bytes.getD (i % w.bytes.length) 0 = w.bytes[i % w.bytes.length] := by
          rw [List.getD_eq_getElem?_getD, List.getElem?_eq_getElem hil]; rfl
        conv => whnf
        rw [emod]
        refine ⟨_, Int.natCast_nonneg _, hbx, ?_⟩
        conv => whnf
        refine ⟨_, hrow, ?_⟩
        conv => whnf
        refine ⟨_, hrow, ?_⟩
        conv => whnf
        refine ⟨_, hrow, ?_⟩
        conv => whnf
        refine ⟨_, hrow, ?_⟩
        conv => whnf
        have e77 : IntKind.wrap .i64 ((((c.map u8).length : Nat) : Int) - k) = (c.length : Int) - k := by
          rw [List.length_map, wrap64 (by omega) (by omega)]
        rw [e77]
        have hlb := w.left_le i (m := (c.length : Int) - k) (by omega)
        have e84 : IntKind.wrap .i64 (k + if (c.length : Int) - k < (if 0 > w.bytes[i % w.bytes.length] then 0 else w.bytes[i % w.bytes.length]) then (c.length : Int) - k else if 0 > w.bytes[i % w.bytes.length] then 0 else w.bytes[i % w.bytes.length]) = D.cutN w p.1 p.2 := by
          rw [hcut]
          unfold Wrk.left at hlb ⊢
          rw [if_pos hb0] at hlb ⊢
          rw [hbx2] at hlb ⊢
          dsimp only at hlb ⊢
          rw [wrap64 (by omega) (by omega)]
        rw [e84]
      rotate_left
      focus
        have hb0 : ¬ 0 < w.bytes.length := by
          have hb2 : decide (0 < (((w.bytes.map fun n => i64 n).length : Nat) : Int)) = false := hb
          rw [hbl] at hb2; simpa using hb2
        conv => whnf
        refine ⟨_, hrow, ?_⟩
        conv => whnf
        refine ⟨_, hrow, ?_⟩
        conv => whnf
        have e84 : IntKind.wrap .i64 (k + 0) = D.cutN w p.1 p.2 := by
          rw [wrap64 (by omega) (by omega), hcut]; unfold Wrk.left; rw [if_neg hb0]
        rw [e84]
      all_goals
        have hlb := w.left_le i (m := (c.length : Int) - k) (by omega)
        have hnb : 0 ≤ D.cutN w p.1 p.2 ∧ D.cutN w p.1 p.2 ≤ c.length := by rw [hcut]; omega
        refine ⟨by omega, by omega, by omega, by rw [List.length_map]; omega, ?_⟩
        conv => whnf
        have erow : AV.sl 1 (((c.map u8).drop ((0 : Nat) : Int).toNat).take ((D.cutN w p.1 p.2).toNat - ((0 : Nat) : Int).toNat)) = bys (c.take (D.cutN w p.1 p.2).toNat) := by
          rw [sl_part]; simp
        rw [erow]
        refine .inr fun nf hnf => ?_
        conv => whnf
        have hmn : m ≠ nf := Store.fresh_ne hnf hI.hm
        refine update_rule ok keyS rfl rfl (m := m) (k := p.1) (v := encP nf) (by rw [Store.get_set_ne _ hmn]; exact hI.hm) hI.hl trivial (fun _ _ => trivial) fun es' ck' h' => ?_
        conv => whnf
        rw [← encN_put, rep_step hond hna (fun q hq => (homem _).2 (List.mem_map_of_mem hq)) hos hsm nf] at h'
        have hσn : σ nf = none := by
          cases hx : σ nf with
          | none => rfl
          | some o => rw [hI.keep _ _ hx] at hnf; cases hnf
        have hgl : (gs ++ [nf]).length = i + 1 := by rw [List.length_append, hI.len]; rfl
        have hgn : nf ∉ gs := fun hg => by
          obtain ⟨j, hj, e⟩ := List.mem_iff_getElem.1 hg
          have hj2 : j < (D.order w).length := by rw [hI.len] at hj; omega
          have hm2 := (homem _).1 (List.getElem_mem hj2)
          obtain ⟨q, hq, e2⟩ := List.mem_map.1 hm2
          have := hI.hf q hq nf (by rw [e2, hond.idxOf_getElem, List.getElem?_eq_getElem hj, e])
          rw [hnf] at this; cases this
        refine ⟨(i + 1, gs ++ [nf], es', ck', (τ.set nf (.row (fileRow (c.take (D.cutN w p.1 p.2).toNat) (D.cutN w p.1 p.2)))).set m (.raw (.map es' ck'))), ⟨by dsimp only; omega, hgl, ?_, ?_, Store.get_set _ _ _, h', ?_, ?_⟩, by dsimp only; omega, .idx rfl (by omega) (.cons rfl (.cons rfl (.cons rfl (.cons rfl (.cons rfl (.nil _)))))), .refl _⟩
        · dsimp only
          rw [List.nodup_append]
          exact ⟨hI.nd, by simp, fun a ha b hb => by simp at hb; subst hb; exact fun e => hgn (e ▸ ha)⟩
        · dsimp only
          intro g hg
          rcases List.mem_append.1 hg with hg | hg
          · exact hI.fr g hg
          · simp only [List.mem_singleton] at hg; subst hg; exact ⟨hσn, Ne.symm hmn⟩
        · dsimp only
          intro q hq g hg
          by_cases hlt2 : (D.order w).idxOf q.1 < gs.length
          · rw [List.getElem?_append_left hlt2] at hg
            have h1 := hI.fr g (List.mem_of_getElem? hg)
            have h2 : g ≠ nf := fun e => hgn (e ▸ List.mem_of_getElem? hg)
            rw [Store.get_set_ne _ h1.2, Store.get_set_ne _ h2]
            exact hI.hf q hq g hg
          · rw [List.getElem?_append_right (by omega)] at hg
            have h0 : (D.order w).idxOf q.1 - gs.length = 0 := by have := lt_of_get hg; simp at this; omega
            rw [h0] at hg
            simp only [List.getElem?_cons_zero, Option.some.injEq] at hg
            subst hg
            have hqi : (D.order w).idxOf q.1 = i := by rw [hI.len] at h0 hlt2; omega
            have hqp : q = p := by
              have h1 := List.getElem_idxOf (List.idxOf_lt_length_of_mem ((homem _).2 (List.mem_map_of_mem hq)))
              have h2 : (D.order w)[i]? = some q.1 := by rw [← hqi, List.getElem?_eq_getElem (List.idxOf_lt_length_of_mem ((homem _).2 (List.mem_map_of_mem hq))), h1]
              rw [hI.len] at hos
              rw [hos] at h2; injection h2 with h2
              have h3 := nget_of_mem hna hq
              have h4 := nget_of_mem hna hp
              rw [← h2, h4] at h3; injection h3 with h3
              exact Prod.ext h2.symm h3.symm
            subst hqp
            rw [Store.get_set_ne _ (Ne.symm hmn), Store.get_set, hbc]
        · dsimp only
          intro b o hbo
          rw [Store.get_set_ne _ (Store.fresh_ne hm hbo), Store.get_set_ne _ (Store.fresh_ne hσn hbo)]
          exact hI.keep b o hbo
    · have hi' : i = (D.order w).length := by
        have h1 := hI.le
        simp at hb; omega
      have hτd := hI.keep _ _ h.hd
      have hgi : ∀ p ∈ D.crashAt w, gs[(D.order w).idxOf p.1]? = some (gs.getD ((D.order w).idxOf p.1) 0) := fun p hp => by
        have h1 := List.idxOf_lt_length_of_mem ((homem _).2 (List.mem_map_of_mem hp))
        have h2 : (D.order w).idxOf p.1 < gs.length := by rw [hI.len, hi']; exact h1
        rw [List.getD_eq_getElem?_getD, List.getElem?_eq_getElem h2]; rfl
      have hgm : ∀ p ∈ D.crashAt w, gs.getD ((D.order w).idxOf p.1) 0 ∈ gs := fun p hp => List.mem_of_getElem? (hgi p hp)
      have hnow : (D.crashAt w).map (rep (D.order w) gs) = (D.crashAt w).map fun p => (p.1, gs.getD ((D.order w).idxOf p.1) 0) :=
        List.map_congr_left fun p hp => by simp only [rep, hgi p hp]
      have hginj : ∀ p ∈ D.crashAt w, ∀ q ∈ D.crashAt w, gs.getD ((D.order w).idxOf p.1) 0 = gs.getD ((D.order w).idxOf q.1) 0 → p = q := fun p hp q hq e => by
        have h1 := hgi p hp
        have h2 := hgi q hq
        rw [← e] at h2
        have l1 := lt_of_get h1
        have l2 := lt_of_get h2
        rw [List.getElem?_eq_getElem l1] at h1
        rw [List.getElem?_eq_getElem l2] at h2
        have h3 : (D.order w).idxOf p.1 = (D.order w).idxOf q.1 := by
          injection h1 with h1; injection h2 with h2
          have a1 := hI.nd.idxOf_getElem _ l1
          have a2 := hI.nd.idxOf_getElem _ l2
          rw [h1] at a1; rw [h2] at a2; exact a1.symm.trans a2
        have h4 := List.getElem_idxOf (List.idxOf_lt_length_of_mem ((homem _).2 (List.mem_map_of_mem hp)))
        have h5 := List.getElem_idxOf (List.idxOf_lt_length_of_mem ((homem _).2 (List.mem_map_of_mem hq)))
        have h6 : p.1 = q.1 := by rw [← h4, ← h5]; congr 1
        have h7 := nget_of_mem hna hp
        have h8 := nget_of_mem hna hq
        rw [h6, h8] at h7; injection h7 with h7
        exact Prod.ext h6 h7.symm
      have hfin : ∀ m', τ m' = none → R (i64 0) ((τ.set m' (.raw (.map es ck))).set d (.row (Hd.row ⟨m, m', .val (.slice none 0 0), D.room, false, false, 0⟩))) := fun m' hm' => by
        have hnm : ∀ {x o}, τ x = some o → x ≠ m' := fun hx => Store.fresh_ne hm' hx
        have hgτ : ∀ g ∈ gs, τ g ≠ none ∧ g ≠ d := fun g hg => by
          obtain ⟨j, hj, e⟩ := List.mem_iff_getElem.1 hg
          have hj2 : j < (D.order w).length := by rw [hI.len] at hj; omega
          obtain ⟨q, hq, e2⟩ := List.mem_map.1 ((homem _).1 (List.getElem_mem hj2))
          have := hI.hf q hq g (by rw [e2, hond.idxOf_getElem, List.getElem?_eq_getElem hj, e])
          refine ⟨by rw [this]; simp, fun e3 => ?_⟩
          have h1 := (hI.fr g hg).1
          rw [e3, h.hd] at h1; cases h1
        refine hR (fun s => gs.getD ((D.order w).idxOf s) 0) hginj (fun p hp => ?_) _ (fun x => x = d ∨ x = m ∨ x = m' ∨ ∃ p ∈ D.crashAt w, x = gs.getD ((D.order w).idxOf p.1) 0) ⟨m, m', none, es, ck, es, ck, ?_⟩ ?_
        · cases hx : D.fl (gs.getD ((D.order w).idxOf p.1) 0) with
          | none => rfl
          | some v => 
            have h1 := (hI.fr _ (hgm p hp)).1
            have h2 := h.fl _ v.1 v.2 hx
            rw [h1] at h2; cases h2
        · refine ⟨Store.get_set _ _ _, ?_, ?_, ?_, ?_, hnm hI.hm, rfl, ?_, .inl rfl, .inr (.inl rfl), .inr (.inr (.inl rfl)), by simp, ?_, ?_⟩
          · rw [Store.get_set_ne _ (Ne.symm hdm), Store.get_set_ne _ (hnm hI.hm)]; exact hI.hm
          · rw [show (D.crash w fun s => gs.getD ((D.order w).idxOf s) 0).now = (D.crashAt w).map (rep (D.order w) gs) from hnow.symm]; exact hI.hl
          · rw [Store.get_set_ne _ (Ne.symm (hnm hτd)), Store.get_set]
          · rw [show (D.crash w fun s => gs.getD ((D.order w).idxOf s) 0).kept = (D.crashAt w).map (rep (D.order w) gs) from hnow.symm]; exact hI.hl
          · intro f c k hf
            obtain ⟨p, hp, he⟩ := Option.map_eq_some_iff.1 hf
            have hpm := List.mem_of_find?_eq_some hp
            have hpf : gs.getD ((D.order w).idxOf p.1) 0 = f := by
              have := List.find?_some hp
              simpa using this
            have h1 := hI.hf p hpm f (by rw [hgi p hpm, hpf])
            injection he with e1 e2
            rw [e1, e2] at h1
            rw [Store.get_set_ne _ (hgτ f (hpf ▸ hgm p hpm)).2, Store.get_set_ne _ (hnm h1)]; exact h1
          · intro f hf
            obtain ⟨v, hv⟩ := Option.ne_none_iff_exists'.1 hf
            obtain ⟨p, hp, he⟩ := Option.map_eq_some_iff.1 hv
            have hpm := List.mem_of_find?_eq_some hp
            have hpf : gs.getD ((D.order w).idxOf p.1) 0 = f := by
              have := List.find?_some hp
              simpa using this
            exact .inr (.inr (.inr ⟨p, hpm, hpf.symm⟩))
          · intro x hx
            by_cases e1 : x = d
            · subst e1; rw [Store.get_set]; simp
            · rw [Store.get_set_ne _ e1]
              by_cases e2 : x = m'
              · subst e2; rw [Store.get_set]; simp
              · rw [Store.get_set_ne _ e2]
                rcases hx with hx | hx | hx | ⟨p, hp, hx⟩
                · exact absurd hx e1
                · rw [hx, hI.hm]; simp
                · exact absurd hx e2
                · rw [hx]; exact (hgτ _ (hgm p hp)).1
        · intro x o hx hn
          have hxτ := hI.keep x o hx
          have hxd : x ≠ d := fun e => hn (e ▸ h.fd)
          refine ⟨by rw [Store.get_set_ne _ hxd, Store.get_set_ne _ (hnm hxτ)]; exact hxτ, fun hc => ?_⟩
          rcases hc with hc | hc | hc | ⟨p, hp, hc⟩
          · exact hxd hc
          · rw [hc, hm] at hx; cases hx
          · exact hnm hxτ hc
          · rw [hc, (hI.fr _ (hgm p hp)).1] at hx; cases hx
      conv => whnf
      refine AW.draw ok mixed rfl rfl ?_
      conv => whnf
      refine ⟨?_, ?_⟩ <;> conv => whnf
      focus
        refine mapsClone_v m es ck τ hI.hm _ fun m' hm' => ?_
        conv => whnf
        refine ⟨_, by rw [Store.get_set_ne _ (Store.fresh_ne hm' hτd)]; exact hτd, ?_⟩
        conv => whnf
      rotate_left
      focus
        refine ⟨_, hτd, ?_⟩
        conv => whnf
        refine mapsClone_v m es ck τ hI.hm _ fun m' hm' => ?_
        conv => whnf
      all_goals
        refine ⟨_, by rw [Store.get_set_ne _ (Store.fresh_ne hm' hτd)]; exact hτd, by show 0 + 7 ≤ 7; omega, ?_⟩
        conv => whnf
        exact seen (hfin m' hm')

end Go.Cr.Try

namespace Go.Cr.Try
open Go Go.Cr Go.Proofs

/-! ### Disks that are as they should be -/

/-- Files of up to n bytes; up to M names and changes. -/
structure Dk.Wf (D : Dk) (n M : Nat) : Prop where
  l0 : 0 ≤ D.left
  l1 : D.left ≤ 9223372036854775807
  r0 : 0 ≤ D.room
  r1 : D.room ≤ 9223372036854775807
  now : ∀ p ∈ D.now, D.fl p.2 ≠ none
  kept : ∀ p ∈ D.kept, D.fl p.2 ≠ none
  chg : ∀ c ∈ D.chg, c.new ≠ noName → ∃ f, c.file = some f ∧ D.fl f ≠ none
  fl : ∀ f c k, D.fl f = some (c, k) → 0 ≤ k ∧ k ≤ c.length ∧ c.length ≤ n
  n1 : D.now.length ≤ M
  n2 : D.kept.length + D.chg.length ≤ M
  d1 : ndKeys D.now
  d2 : ndKeys D.kept

theorem Dk.Wf.ok {D : Dk} {n M : Nat} (h : D.Wf n M) (hn : n ≤ 10000000) (hM : M ≤ 1000000) : D.Ok where
  l0 := h.l0
  l1 := h.l1
  r0 := h.r0
  r1 := h.r1
  now := h.now
  kept := h.kept
  chg := h.chg
  fl f c k hf := by have := h.fl f c k hf; omega
  n1 := by have := h.n1; omega
  n2 := by have := h.n2; omega
  n3 := by have := h.n2; omega

theorem Dk.Wf.mono {D : Dk} {n M n' M' : Nat} (h : D.Wf n M) (hn : n ≤ n') (hM : M ≤ M') : D.Wf n' M' where
  l0 := h.l0
  l1 := h.l1
  r0 := h.r0
  r1 := h.r1
  now := h.now
  kept := h.kept
  chg := h.chg
  fl f c k hf := by have := h.fl f c k hf; omega
  n1 := by have := h.n1; omega
  n2 := by have := h.n2; omega
  d1 := h.d1
  d2 := h.d2

theorem Dk.Wf.len_le {D : Dk} {n M : Nat} (h : D.Wf n M) (f : Nat) : D.len f ≤ n := by
  unfold Dk.len
  split
  · rename_i c k hc; exact (h.fl f c k hc).2.2
  · omega

theorem Dk.Wf.rdy {D : Dk} {n M : Nat} (h : D.Wf n M) : D.rdy.1.Wf n M := by
  obtain ⟨now, kept, chg, room, down, doomed, left, fl⟩ := D
  obtain ⟨l0, l1, r0, r1, h1, h2, h3, h4, h5, h6, h7, h8⟩ := h
  dsimp only at l0 l1
  cases down <;> cases doomed <;> simp only [Dk.rdy]
  · exact ⟨l0, l1, r0, r1, h1, h2, h3, h4, h5, h6, h7, h8⟩
  · split
    · exact ⟨l0, l1, r0, r1, h1, h2, h3, h4, h5, h6, h7, h8⟩
    · exact ⟨by dsimp only; omega, by dsimp only; omega, r0, r1, h1, h2, h3, h4, h5, h6, h7, h8⟩
  · exact ⟨l0, l1, r0, r1, h1, h2, h3, h4, h5, h6, h7, h8⟩
  · exact ⟨l0, l1, r0, r1, h1, h2, h3, h4, h5, h6, h7, h8⟩

theorem Dk.Wf.setf {D : Dk} {n M : Nat} (h : D.Wf n M) (f : Nat) {c : List UInt8} {k : Int} (h0 : 0 ≤ k) (h1 : k ≤ c.length) (h2 : c.length ≤ n) : (D.setf f c k).Wf n M := by
  have hs : ∀ x, D.fl x ≠ none → (D.setf f c k).fl x ≠ none := fun x hx => by
    simp only [Dk.setf]; split
    · simp
    · exact hx
  refine ⟨h.l0, h.l1, h.r0, h.r1, fun p hp => hs _ (h.now p hp), fun p hp => hs _ (h.kept p hp), fun x hx hn => ?_, fun g c' k' hg => ?_, h.n1, h.n2, h.d1, h.d2⟩
  · obtain ⟨f', e1, e2⟩ := h.chg x hx hn; exact ⟨f', e1, hs _ e2⟩
  · simp only [Dk.setf] at hg
    split at hg
    · injection hg with hg; injection hg with e1 e2; subst e1 e2; exact ⟨h0, h1, h2⟩
    · exact h.fl g c' k' hg

theorem Dk.Wf.changed {D : Dk} {n M : Nat} (h : D.Wf n M) (c : Chn) (hc : c.new ≠ noName → ∃ f, c.file = some f ∧ D.fl f ≠ none) : (D.changed c).Wf n (M + 1) where
  l0 := h.l0
  l1 := h.l1
  r0 := h.r0
  r1 := h.r1
  now p hp := by
    rcases mem_doN hp with ⟨h1, h2, _⟩ | hp
    · obtain ⟨f, e1, e2⟩ := hc h1
      rw [e1] at h2; injection h2 with h2; rw [← h2]; exact e2
    · exact h.now p hp
  kept := h.kept
  chg x hx hn := by
    rcases List.mem_append.1 hx with hx | hx
    · exact h.chg x hx hn
    · simp only [List.mem_singleton] at hx; subst hx; exact hc hn
  fl := h.fl
  n1 := by have := h.n1; have := len_doN c D.now; show (doN D.now c).length ≤ _; omega
  n2 := by have := h.n2; show D.kept.length + (D.chg ++ [c]).length ≤ _; rw [List.length_append]; simp; omega
  d1 := nd_doN h.d1
  d2 := h.d2

theorem Dk.Wf.nget {D : Dk} {n M : Nat} (h : D.Wf n M) {name : ByteArray} {f : Nat} (hf : nget name D.now = some f) : ∃ c k, D.fl f = some (c, k) ∧ D.bytes f = c ∧ D.kp f = k ∧ 0 ≤ k ∧ k ≤ c.length ∧ c.length ≤ n := by
  obtain ⟨p, hp, e⟩ := nget_mem hf
  have := h.now p hp
  rw [e] at this
  obtain ⟨⟨c, k⟩, hc⟩ := Option.ne_none_iff_exists'.1 this
  exact ⟨c, k, hc, by simp [Dk.bytes, hc], by simp [Dk.kp, hc], h.fl f c k hc⟩

theorem Dk.Wf.created {D : Dk} {n M : Nat} (h : D.Wf n M) (name : ByteArray) (nf : Nat) : (D.created name nf).Wf n (M + 1) := by
  refine (h.rdy.setf nf (by omega) (by simp) (by simp)).changed _ fun _ => ⟨nf, rfl, ?_⟩
  simp [Dk.setf]

theorem Dk.Wf.append {D : Dk} {n M : Nat} (h : D.Wf n M) (name : ByteArray) (b : List UInt8) : (D.append name b).1.Wf (n + b.length) M := by
  unfold Dk.append
  split
  · exact h.rdy.mono (by omega) (Nat.le_refl _)
  · split
    · exact h.rdy.mono (by omega) (Nat.le_refl _)
    · rename_i f hf
      obtain ⟨c, k, h1, h2, h3, h4, h5, h6⟩ := h.nget hf
      split
      · exact h.rdy.mono (by omega) (Nat.le_refl _)
      · rw [h2, h3]
        exact (h.rdy.mono (Nat.le_add_right n b.length) (Nat.le_refl _)).setf f h4 (by rw [List.length_append]; omega) (by rw [List.length_append]; omega)

theorem Dk.Wf.sync {D : Dk} {n M : Nat} (h : D.Wf n M) (name : ByteArray) : (D.sync name).1.Wf n M := by
  unfold Dk.sync
  split
  · exact h.rdy
  · split
    · exact h.rdy
    · rename_i f hf
      obtain ⟨c, k, h1, h2, h3, h4, h5, h6⟩ := h.nget hf
      rw [h2]
      exact h.rdy.setf f (by omega) (Int.le_refl _) h6

theorem Dk.Wf.rename {D : Dk} {n M : Nat} (h : D.Wf n M) (a b : ByteArray) : (D.rename a b).1.Wf n (M + 1) := by
  unfold Dk.rename
  split
  · exact h.rdy.mono (Nat.le_refl _) (by omega)
  · split
    · exact h.rdy.mono (Nat.le_refl _) (by omega)
    · rename_i f hf
      obtain ⟨c, k, h1, h2, h3, h4, h5, h6⟩ := h.nget hf
      split
      · exact h.rdy.mono (Nat.le_refl _) (by omega)
      · exact h.rdy.changed _ fun _ => ⟨f, rfl, by rw [Dk.rdy_fl, h1]; simp⟩

theorem Dk.Wf.remove {D : Dk} {n M : Nat} (h : D.Wf n M) (a : ByteArray) : (D.remove a).1.Wf n (M + 1) := by
  unfold Dk.remove
  split
  · exact h.rdy.mono (Nat.le_refl _) (by omega)
  · split
    · exact h.rdy.mono (Nat.le_refl _) (by omega)
    · exact h.rdy.changed _ fun hn => absurd rfl hn

theorem Dk.Wf.syncNames {D : Dk} {n M : Nat} (h : D.Wf n M) : D.syncNames.1.Wf n M := by
  unfold Dk.syncNames
  split
  · exact h.rdy
  · have hr := h.rdy
    refine ⟨hr.l0, hr.l1, hr.r0, hr.r1, hr.now, fun p hp => ?_, by simp, hr.fl, hr.n1, ?_, hr.d1, h.d1⟩
    · show D.rdy.1.fl p.2 ≠ none
      rw [Dk.rdy_fl]; exact h.now p hp
    · have := h.n1
      show D.now.length + 0 ≤ M; omega

theorem Dk.Wf.doom {D : Dk} {n M : Nat} (h : D.Wf n M) {k : Int} (h0 : 0 ≤ k) (h1 : k ≤ 9223372036854775807) : (D.doom k).Wf n M :=
  ⟨h0, h1, h.r0, h.r1, h.now, h.kept, h.chg, h.fl, h.n1, h.n2, h.d1, h.d2⟩

theorem Dk.Wf.crashAt {D : Dk} {n M : Nat} (h : D.Wf n M) (w : Wrk) : (∀ p ∈ D.crashAt w, D.fl p.2 ≠ none) ∧ (D.crashAt w).length ≤ M ∧ ndKeys (D.crashAt w) := by
  refine ⟨fun p hp => ?_, ?_, nd_fold h.d2 _⟩
  · rcases mem_fold hp with ⟨c, h1, h2, h3, _⟩ | hp
    · obtain ⟨f, e1, e2⟩ := h.chg c (List.mem_of_mem_take h1) h2
      rw [h3] at e1; injection e1 with e1; rw [e1]; exact e2
    · exact h.kept p hp
  · have h1 := len_fold (D.chg.take (D.crashN w)) D.kept
    have h2 := h.n2
    have h4 : (D.chg.take (D.crashN w)).length ≤ D.chg.length := by rw [List.length_take]; omega
    unfold Dk.crashAt
    omega

theorem Dk.Wf.crash {D : Dk} {n M : Nat} (h : D.Wf n M) (w : Wrk) (g : ByteArray → Nat) : (D.crash w g).Wf n M := by
  obtain ⟨h1, h2, h3⟩ := h.crashAt w
  have hnd : ndKeys ((D.crashAt w).map fun p => (p.1, g p.1)) := by
    unfold ndKeys
    rw [List.map_map]; exact h3
  have hfl : ∀ p ∈ (D.crashAt w).map (fun p => (p.1, g p.1)), (D.crash w g).fl p.2 ≠ none := fun p hp => by
    obtain ⟨q, hq, rfl⟩ := List.mem_map.1 hp
    show Option.map _ ((D.crashAt w).find? fun p => g p.1 == g q.1) ≠ none
    intro e
    have := List.find?_eq_none.1 (Option.map_eq_none_iff.1 e) q hq
    simp at this
  refine ⟨by show (0 : Int) ≤ 0; omega, by show (0 : Int) ≤ _; omega, h.r0, h.r1, hfl, hfl, by simp [Dk.crash], fun f c k hf => ?_, by show List.length (List.map _ _) ≤ _; rw [List.length_map]; exact h2, by show List.length (List.map _ _) + 0 ≤ _; rw [List.length_map]; exact h2, hnd, hnd⟩
  obtain ⟨p, hp, he⟩ := Option.map_eq_some_iff.1 hf
  have hpm := List.mem_of_find?_eq_some hp
  obtain ⟨⟨c', k'⟩, hc⟩ := Option.ne_none_iff_exists'.1 (h1 p hpm)
  have hck := h.fl _ c' k' hc
  have hbc : D.bytes p.2 = c' := by simp [Dk.bytes, hc]
  have hkc : D.kp p.2 = k' := by simp [Dk.kp, hc]
  have hlb := w.left_le ((D.order w).idxOf p.1) (m := (c'.length : Int) - k') (by omega)
  have hcut : D.cutN w p.1 p.2 = k' + w.left ((D.order w).idxOf p.1) (c'.length - k') := by unfold Dk.cutN; rw [hbc, hkc]
  injection he with e1 e2
  rw [hbc] at e1
  subst e1 e2
  rw [List.length_take]
  omega

end Go.Cr.Try

namespace Go.Cr.Try
open Go Go.Cr Go.Proofs

/-! ### One thing behind the other -/

/-- A function value without arguments. -/
structure Fun0 where
  f : Fn
  first : List AV
  cap : List AV
def Fun0.av (x : Fun0) : AV := .fn x.f x.first x.cap

def chainA : List Fun0 → Store → (AV → Store → Prop) → Prop
  | [], σ, R => R (i64 0) σ
  | x :: l, σ, R => AInv P x.f x.first x.cap [] σ fun a σ' => ∃ e : Int, a = i64 e ∧ (e ≠ 0 → R (i64 e) σ') ∧ (e = 0 → chainA l σ' R)

theorem all_p (l : List Fun0) (hl : l.length ≤ 1000000) (σ : Store) (R : AV → Store → Prop) (h : chainA l σ R) : ACalls P 24 [.sl 1 (l.map Fun0.av)] σ R := by
  refine AInv.seen (AInv.of_body ok Try.func24 rfl (by decide) rfl ?_)
  conv => whnf
  refine AW.loop ok (ι := Nat × Store) (fun i => i.1 ≤ l.length ∧ chainA (l.drop i.1) i.2 R) (fun i => [(8, i64 (i.1 : Int)), (7, i64 ((l.map Fun0.av).length : Nat)), (6, .sl 1 (l.map Fun0.av))]) (fun i => i.2)
    (fun i => l.length - i.1) (0, σ) ⟨Nat.zero_le _, h⟩ (.cons rfl (.cons rfl (.cons rfl (.nil _)))) (.refl _) ?_
  rintro ⟨i, τ⟩ ⟨hi, hc⟩
  dsimp only at hi hc ⊢
  conv => whnf
  refine bcase_intro (fun hb => ?_) (fun hb => ?_) <;> (try rw [hb]); conv => whnf
  · have hlt : i < l.length := by simp at hb; omega
    rw [List.drop_eq_getElem_cons hlt] at hc
    refine ⟨l[i].av, Int.natCast_nonneg _, by simp [hlt], ?_⟩
    generalize l[i] = x at hc ⊢
    obtain ⟨f, first, cap⟩ := x
    conv => whnf
    refine AInv.mono hc ?_
    rintro a σ' ⟨e, rfl, h1, h2⟩
    conv => whnf
    refine bcase_intro (fun hb => ?_) (fun hb => ?_) <;> (try rw [hb]); conv => whnf
    · exact seen (h1 (by simpa using hb))
    · exact ⟨(i + 1, σ'), ⟨by dsimp only; omega, h2 (by simpa using hb)⟩, by dsimp only; omega, .idx rfl (by omega) (.cons rfl (.cons rfl (.nil _))), .refl _⟩
  · have hi' : i = l.length := by simp at hb; omega
    subst hi'
    rw [List.drop_length] at hc
    conv => whnf
    exact seen hc

theorem frz_funs {b : Nat} {l : List Fun0} {σ : Store} (hb : σ b = none) : Frz (.arr b 0 l.length 1) (σ.set b (.row (l.map Fun0.av))) (.sl 1 (l.map Fun0.av)) σ := by
  refine Frz.sl (Store.get_set _ _ _) ((SubS.refl σ).set hb _) hb (List.length_map _) (by intro u hu; obtain ⟨x, _, rfl⟩ := List.mem_map.1 hu; rfl) ?_
  rw [List.drop_zero, List.take_of_length_le (by simp)]
  clear hb
  induction l with
  | nil => rfl
  | cons x l ih => simp only [List.map_cons, List.flatMap_cons, ih]; rfl

def tmpN : ByteArray := ⟨#[116, 109, 112]⟩
def rightP (s : ByteArray) : Bool := decide (s ≠ tmpN) && (decide (s ≠ noName) && decide (s.size ≤ 32))

theorem size32 (s : ByteArray) : decide ((s.size : Int) ≤ 32) = decide (s.size ≤ 32) := by
  by_cases hs : s.size ≤ 32
  · rw [decide_eq_true hs]; simp; omega
  · rw [decide_eq_false hs]; simp; omega

theorem placeRight_v (s : ByteArray) (σ : Store) (R : AV → Store → Prop) (h : R (.val (.bool (rightP s))) σ) : ACalls P 23 [.val (.string s)] σ R := by
  refine AInv.seen (AInv.of_body ok Try.func23 rfl (by decide) rfl ?_)
  conv => whnf
  have e1 : (!(s.toList == tmpN.toList)) = decide (s ≠ tmpN) := by rw [toList_beq]; by_cases hx : s = tmpN <;> simp [hx]
  have e2 : (!(s.toList == noName.toList)) = decide (s ≠ noName) := by rw [toList_beq]; by_cases hx : s = noName <;> simp [hx]
  refine bcase_intro (fun hb => ?_) (fun hb => ?_) <;> rw [hb] <;> conv => whnf
  · have hb1 : decide (s ≠ tmpN) = true := by rw [← e1]; exact hb
    refine bcase_intro (fun hb => ?_) (fun hb => ?_) <;> rw [hb] <;> conv => whnf
    · have hb2 : decide (s ≠ noName) = true := by rw [← e2]; exact hb
      refine seen ?_
      have : rightP s = decide ((s.size : Int) ≤ 32) := by unfold rightP; rw [hb1, hb2, size32]; rfl
      rw [this] at h; exact h
    · have hb2 : decide (s ≠ noName) = false := by rw [← e2]; exact hb
      refine seen ?_
      have : rightP s = false := by unfold rightP; rw [hb1, hb2]; rfl
      rw [this] at h; exact h
  · have hb1 : decide (s ≠ tmpN) = false := by rw [← e1]; exact hb
    refine seen ?_
    have : rightP s = false := by unfold rightP; rw [hb1]; rfl
    rw [this] at h; exact h

end Go.Cr.Try

namespace Go.Cr.Try
open Go Go.Cr Go.Proofs

/-! ### Things that are done to a disk, one behind the other: what may come of them -/

abbrev Opr := Dk → Dk × Int → Prop
def createR (name : ByteArray) : Opr := fun D r => (D.createE name ≠ 0 ∧ r = (D.rdy.1, D.createE name)) ∨ (D.createE name = 0 ∧ ∃ nf, D.fl nf = none ∧ r = (D.created name nf, 0))
def seqR (A B : Opr) : Opr := fun D r => ∃ r1, A D r1 ∧ ((r1.2 ≠ 0 ∧ r = r1) ∨ (r1.2 = 0 ∧ B r1.1 r))
def fnR (f : Dk → Dk × Int) : Opr := fun D r => r = f D
def madeR (name : ByteArray) : Opr := fun D r => ∃ r1, createR name D r1 ∧ ((r1.2 = 0 ∧ r = r1.1.syncNames) ∨ (r1.2 = 4 ∧ r = (r1.1, 0)) ∨ (r1.2 ≠ 0 ∧ r1.2 ≠ 4 ∧ r = r1))
def growR (name : ByteArray) (b : List UInt8) : Opr := fun D r => (rightP name = false ∧ r = (D, 1)) ∨
  (rightP name = true ∧ seqR (madeR name) (seqR (fnR fun D => D.append name b) (fnR fun D => D.sync name)) D r)

theorem createR.wf {name : ByteArray} {D : Dk} {r : Dk × Int} {n M : Nat} (h : D.Wf n M) (hr : createR name D r) : r.1.Wf n (M + 1) := by
  rcases hr with ⟨_, rfl⟩ | ⟨_, nf, _, rfl⟩
  · exact h.rdy.mono (Nat.le_refl _) (by omega)
  · exact h.created name nf
theorem madeR.wf {name : ByteArray} {D : Dk} {r : Dk × Int} {n M : Nat} (h : D.Wf n M) (hr : madeR name D r) : r.1.Wf n (M + 1) := by
  obtain ⟨r1, h1, h2⟩ := hr
  have hw := h1.wf h
  rcases h2 with ⟨_, rfl⟩ | ⟨_, rfl⟩ | ⟨_, _, rfl⟩
  · exact hw.syncNames
  · exact hw
  · exact hw

variable {σ : Store} {F : Nat → Prop} {d : Nat} {D : Dk} {n M : Nat}

theorem create_r (hD : DiskAt σ F d D) (hw : D.Wf n M) (hn : n ≤ 10000000) (hM : M ≤ 1000000) (name : ByteArray) (R : AV → Store → Prop)
    (hR : ∀ r, createR name D r → ∀ σ' F', DiskAt σ' F' d r.1 → Keeps σ F σ' F' → R (i64 r.2) σ') : ACalls P 38 [ptrA d, .val (.string name)] σ R :=
  create_d hD (hw.ok hn hM) name R (fun he _ h1 h2 => hR _ (.inl ⟨he, rfl⟩) _ _ h1 h2) (fun he nf hf _ _ h1 h2 => hR _ (.inr ⟨he, nf, hf, rfl⟩) _ _ h1 h2)

theorem made_d (hD : DiskAt σ F d D) (hw : D.Wf n M) (hn : n ≤ 10000000) (hM : M + 1 ≤ 1000000) (name : ByteArray) (R : AV → Store → Prop)
    (hR : ∀ r, madeR name D r → ∀ σ' F', DiskAt σ' F' d r.1 → Keeps σ F σ' F' → R (i64 r.2) σ') : ACalls P 26 [ptrA d, .val (.string name)] σ R := by
  refine AInv.seen (AInv.of_body ok Try.func26 rfl (by decide) rfl ?_)
  conv => whnf
  refine create_r hD hw hn (by omega) name _ fun r1 h1 σ1 F1 hD1 hk1 => ?_
  have hw1 := h1.wf hw
  obtain ⟨D1, e⟩ := r1
  dsimp only at hD1 hw1 ⊢
  conv => whnf
  refine bcase_intro (fun hb => ?_) (fun hb => ?_) <;> (try rw [hb]); conv => whnf
  · have he : e = 0 := by simpa using hb
    refine syncNames_d hD1 (hw1.ok hn (by omega)) _ fun σ2 F2 hD2 hk2 => ?_
    conv => whnf
    exact seen (hR _ ⟨_, h1, .inl ⟨he, rfl⟩⟩ _ _ hD2 (hk1.trans hk2))
  · have he : e ≠ 0 := by simpa using hb
    conv => whnf
    refine bcase_intro (fun hb => ?_) (fun hb => ?_) <;> (try rw [hb]); conv => whnf
    · have he : e = 4 := by simpa using hb
      exact seen (hR _ ⟨_, h1, .inr (.inl ⟨he, rfl⟩)⟩ _ _ hD1 hk1)
    · have he4 : e ≠ 4 := by simpa using hb
      conv => whnf
      exact seen (hR _ ⟨_, h1, .inr (.inr ⟨he, he4, rfl⟩)⟩ _ _ hD1 hk1)

theorem grow_d (hD : DiskAt σ F d D) (hw : D.Wf n M) (name : ByteArray) (b : List UInt8) (hn : n + b.length ≤ 10000000) (hM : M + 1 ≤ 1000000) (R : AV → Store → Prop)
    (hR : ∀ r, growR name b D r → ∀ σ' F', DiskAt σ' F' d r.1 → Keeps σ F σ' F' → R (i64 r.2) σ') : ACalls P 13 [ptrA d, .val (.string name), bys b] σ R := by
  refine AInv.seen (AInv.of_body ok Try.func13 rfl (by decide) rfl ?_)
  conv => whnf
  refine .inl ?_
  conv => whnf
  refine .inl ?_
  conv => whnf
  refine .inl ?_
  conv => whnf
  refine placeRight_v name _ _ ?_
  conv => whnf
  refine bcase_intro (fun hb => ?_) (fun hb => ?_) <;> (try rw [hb]); conv => whnf
  · have hp : rightP name = false := by
      have hb2 : (!rightP name) = true := hb
      simpa only [Bool.not_eq_true'] using hb2
    exact seen (hR _ (.inl ⟨hp, rfl⟩) _ _ hD (.refl _ _))
  · have hp : rightP name = true := by
      have hb2 : (!rightP name) = false := hb
      simpa only [Bool.not_eq_false'] using hb2
    conv => whnf
    intro t ht
    conv => whnf
    have hfin : ∀ r, seqR (madeR name) (seqR (fnR fun D => D.append name b) (fnR fun D => D.sync name)) D r → ∀ σ' F', DiskAt σ' F' d r.1 → Keeps σ F σ' F' → R (i64 r.2) σ' :=
      fun r hr σ' F' h1 h2 => hR r (.inr ⟨hp, hr⟩) σ' F' h1 h2
    refine AInv.frz1 (frz_funs (l := [⟨.func 25, [], [.iptr [ptrA d], .iptr [.val (.string name)]]⟩, ⟨.func 27, [], [.iptr [ptrA d], .iptr [.val (.string name)], .iptr [bys b]]⟩, ⟨.func 29, [], [.iptr [ptrA d], .iptr [.val (.string name)]]⟩]) ht) (all_p _ (by simp) _ _ ?_)
    refine AInv.seen (AInv.of_body ok Try.func25 rfl (by decide) rfl ?_)
    conv => whnf
    refine made_d hD hw (by omega) hM name _ fun r1 h1 σ1 F1 hD1 hk1 => ?_
    conv => whnf
    have hw1 := h1.wf hw
    obtain ⟨D1, e1⟩ := r1
    dsimp only at hD1 hw1
    refine seen ⟨e1, rfl, fun he => ?_, fun he => ?_⟩
    · conv => whnf
      exact seen (hfin _ ⟨_, h1, .inl ⟨he, rfl⟩⟩ _ _ hD1 hk1)
    refine AInv.seen (AInv.of_body ok Try.func27 rfl (by decide) rfl ?_)
    conv => whnf
    refine append_d hD1 (hw1.ok (by omega) (by omega)) name b (by omega) _ fun σ2 hD2 hk2 => ?_
    conv => whnf
    have hw2 := hw1.append name b
    refine seen ⟨_, rfl, fun he2 => ?_, fun he2 => ?_⟩
    · conv => whnf
      exact seen (hfin _ ⟨_, h1, .inr ⟨he, _, rfl, .inl ⟨he2, rfl⟩⟩⟩ _ _ hD2 (hk1.trans hk2))
    refine AInv.seen (AInv.of_body ok Try.func29 rfl (by decide) rfl ?_)
    conv => whnf
    refine sync_d hD2 (hw2.ok (by omega) (by omega)) name _ fun σ3 hD3 hk3 => ?_
    conv => whnf
    have hf3 := hfin _ ⟨_, h1, .inr ⟨he, _, rfl, .inr ⟨he2, rfl⟩⟩⟩ _ _ hD3 ((hk1.trans hk2).trans hk3)
    refine seen ⟨_, rfl, fun _ => ?_, fun he3 => ?_⟩
    · conv => whnf
      exact seen hf3
    · conv => whnf
      dsimp only at hf3
      rw [he3] at hf3
      exact seen hf3

end Go.Cr.Try

namespace Go.Cr.Try
open Go Go.Cr Go.Proofs

/-! ### Ranges over functions -/

/-- What is told to a function, one behind the other, as long as it wants more. -/
def yieldsA (y : Fun0) : List (List AV) → Store → (Store → Prop) → Prop
  | [], σ, R => R σ
  | x :: xs, σ, R => AInv P y.f y.first y.cap x σ fun a σ' => ∃ b, a = .val (.bool b) ∧ (b = true → yieldsA y xs σ' R) ∧ (b = false → R σ')

/-- Bytes in parts of 64. -/
def chunksF : Nat → List UInt8 → List (List UInt8)
  | 0, _ => []
  | k + 1, b => match b with
    | [] => []
    | _ :: _ => b.take 64 :: chunksF k (b.drop 64)
def chunks (b : List UInt8) : List (List UInt8) := chunksF b.length b
theorem chunksF_same : ∀ (n m : Nat) (b : List UInt8), b.length ≤ n → b.length ≤ m → chunksF n b = chunksF m b
  | 0, 0, _, _, _ => rfl
  | 0, m + 1, b, h, _ => by
    have : b = [] := List.eq_nil_of_length_eq_zero (by omega)
    subst this; rfl
  | n + 1, 0, b, _, h => by
    have : b = [] := List.eq_nil_of_length_eq_zero (by omega)
    subst this; rfl
  | n + 1, m + 1, b, h1, h2 => by
    cases b with
    | nil => rfl
    | cons x b =>
      simp only [chunksF]
      congr 1
      simp only [List.length_cons] at h1 h2
      exact chunksF_same n m _ (by rw [List.length_drop, List.length_cons]; omega) (by rw [List.length_drop, List.length_cons]; omega)
theorem chunks_nil : chunks [] = [] := rfl
theorem chunks_cons {b : List UInt8} (h : b ≠ []) : chunks b = b.take 64 :: chunks (b.drop 64) := by
  cases b with
  | nil => exact absurd rfl h
  | cons x b =>
    unfold chunks
    simp only [List.length_cons, chunksF]
    congr 1
    exact chunksF_same _ _ _ (by rw [List.length_drop, List.length_cons]; omega) (Nat.le_refl _)

set_option maxRecDepth 10000 in
theorem chunk1_p (b : List UInt8) (hl : b.length ≤ 100000000) (y : Fun0) (σ : Store) (R : AV → Store → Prop) (h : yieldsA y ((chunks b).map fun c => [bys c]) σ fun σ' => R (.tup []) σ') :
    AInv P (.func 70) [] [.iptr [bys b], .iptr [i64 64]] [y.av] σ R := by
  obtain ⟨yf, yfirst, ycap⟩ := y
  refine AInv.seen (AInv.of_body ok Try.func70 rfl (by decide) rfl ?_)
  conv => whnf
  refine AW.loop ok (ι := Nat × Store) (fun i => 64 * i.1 ≤ b.length + 64 ∧ yieldsA ⟨yf, yfirst, ycap⟩ ((chunks (b.drop (64 * i.1))).map fun c => [bys c]) i.2 fun σ' => R (.tup []) σ')
    (fun i => [(4, i64 ((64 * i.1 : Nat) : Int)), (2, .iptr [i64 64]), (1, .iptr [bys b]), (0, .fn yf yfirst ycap)]) (fun i => i.2)
    (fun i => b.length + 64 - 64 * i.1) (0, σ) ⟨by dsimp only; omega, h⟩ (.cons rfl (.cons rfl (.cons rfl (.cons rfl (.nil _))))) (.refl _) ?_
  rintro ⟨k, τ⟩ ⟨hk, hy⟩
  dsimp only at hk hy ⊢
  have hL : (b.map u8).length = b.length := List.length_map _
  have hdl : (b.drop (64 * k)).length = b.length - 64 * k := List.length_drop
  conv => whnf
  refine bcase_intro (fun hb => ?_) (fun hb => ?_) <;> (try rw [hb]); conv => whnf
  · have hlt : 64 * k < b.length := by simp at hb; omega
    have hne : b.drop (64 * k) ≠ [] := fun e => by rw [e] at hdl; simp at hdl; omega
    rw [chunks_cons hne, List.drop_drop] at hy
    refine AW.draw ok mixed rfl rfl ?_
    conv => whnf
    refine ⟨by omega, by omega, by omega, ?_⟩
    conv => whnf
    have eL : (List.take ((((b.map u8).length : Nat) : Int).toNat - (((64 * k : Nat) : Int)).toNat) (List.drop (((64 * k : Nat) : Int)).toNat (b.map u8))).length = b.length - 64 * k := by
      rw [List.length_take, List.length_drop, Int.toNat_natCast, Int.toNat_natCast, hL]; omega
    rw [eL]
    have eM : IntKind.wrap .i64 (((64 * k : Nat) : Int) + if (((b.length - 64 * k : Nat) : Int)) < 64 then (((b.length - 64 * k : Nat) : Int)) else 64) = ((64 * k + min 64 (b.length - 64 * k) : Nat) : Int) := by
      rw [wrap64 (by split <;> omega) (by split <;> omega)]; split <;> omega
    rw [eM]
    refine ⟨by omega, by omega, by omega, by rw [hL]; omega, ?_⟩
    have eS : AV.sl 1 (((b.map u8).drop (((64 * k : Nat) : Int)).toNat).take ((((64 * k + min 64 (b.length - 64 * k) : Nat) : Int)).toNat - (((64 * k : Nat) : Int)).toNat)) = bys ((b.drop (64 * k)).take 64) := by
      rw [sl_part, Int.toNat_natCast, Int.toNat_natCast]
      congr 1
      rcases Nat.le_total 64 (b.length - 64 * k) with h1 | h1
      · congr 1; omega
      · rw [List.take_of_length_le (by rw [hdl]; omega), List.take_of_length_le (by rw [hdl]; omega)]
    conv => whnf
    rw [eS]
    refine AInv.mono hy ?_
    rintro a σ' ⟨b2, rfl, h1, h2⟩
    conv => whnf
    cases b2 with
    | false =>
      conv => whnf
      exact seen (h2 rfl)
    | true =>
      conv => whnf
      refine ⟨(k + 1, σ'), ⟨by dsimp only; omega, ?_⟩, by dsimp only; omega, .cons ?_ (.cons rfl (.cons rfl (.cons rfl (.nil _)))), .refl _⟩
      · dsimp only
        rw [show 64 * (k + 1) = 64 * k + 64 by omega]; exact h1 rfl
      · show some (AV.val (.int .i64 (IntKind.wrap .i64 (((64 * k : Nat) : Int) + 64)))) = _
        rw [wrap64 (by omega) (by omega)]
        rfl
  · have hge : b.length ≤ 64 * k := by simp at hb; omega
    have h0 : b.drop (64 * k) = [] := List.drop_eq_nil_of_le hge
    rw [h0, chunks_nil] at hy
    exact seen hy

theorem chunk_p (b : List UInt8) (σ : Store) (R : AV → Store → Prop) (h : R (.fn (.func 70) [] [.iptr [bys b], .iptr [i64 64]]) σ) : ACalls P 55 [bys b, i64 64] σ R := by
  refine AInv.seen (AInv.of_body ok Try.func55 rfl (by decide) rfl ?_)
  conv => whnf
  refine .inl ?_
  conv => whnf
  refine .inl ?_
  conv => whnf
  exact seen h

end Go.Cr.Try

namespace Go.Cr.Try
open Go Go.Cr Go.Proofs

/-- Parts put to the file on the way, till one cannot. -/
def Dk.fillL (D : Dk) : List (List UInt8) → Dk × Int
  | [] => (D, 0)
  | x :: xs => if (D.append tmpN x).2 ≠ 0 then D.append tmpN x else Dk.fillL (D.append tmpN x).1 xs
def Dk.fill (D : Dk) (b : List UInt8) : Dk × Int := D.fillL (chunks b)

theorem chunksF_flat : ∀ (n : Nat) (b : List UInt8), b.length ≤ n → (chunksF n b).flatten = b
  | 0, b, h => by
    have : b = [] := List.eq_nil_of_length_eq_zero (by omega)
    subst this; rfl
  | n + 1, b, h => by
    cases b with
    | nil => rfl
    | cons x b =>
      simp only [chunksF, List.flatten_cons]
      rw [chunksF_flat n _ (by rw [List.length_drop]; simp only [List.length_cons] at h ⊢; omega)]
      exact List.take_append_drop 64 _
theorem chunks_flat (b : List UInt8) : (chunks b).flatten = b := chunksF_flat _ _ (Nat.le_refl _)

theorem Dk.Wf.fillL {n M : Nat} : ∀ {xs : List (List UInt8)} {D : Dk}, D.Wf n M → (D.fillL xs).1.Wf (n + xs.flatten.length) M
  | [], D, h => h
  | x :: xs, D, h => by
    have h1 := h.append tmpN x
    simp only [Dk.fillL]
    split
    · exact h1.mono (by simp) (Nat.le_refl _)
    · have := h1.fillL (xs := xs)
      refine this.mono ?_ (Nat.le_refl _)
      simp; omega

variable {σ : Store} {F : Nat → Prop} {d : Nat} {D : Dk} {n M : Nat}

/-- The first arguments may be bound. -/
theorem AInv.bound {f : Fn} {first cap args : List AV} {σ : Store} {R : AV → Store → Prop} (h : AInv P f [] cap (first ++ args) σ R) : AInv P f first cap args σ R := by
  refine ⟨fun w vf vc va h0 h1 h2 h3 => ?_⟩
  have := h.out w #[] vc (vf ++ va) h0 ⟨rfl, by simp⟩ h2 ⟨by simp [h1.1, h3.1], fun i y hy => ?_⟩
  · rwa [Array.empty_append] at this
  · by_cases hi : i < first.length
    · rw [List.getElem?_append_left hi] at hy
      have := h1.2 i y hy
      rw [Array.getD_eq_getD_getElem?] at this ⊢
      rw [Array.getElem?_append_left (by rw [h1.1]; exact hi)]; exact this
    · rw [List.getElem?_append_right (by omega)] at hy
      have := h3.2 _ y hy
      rw [Array.getD_eq_getD_getElem?] at this ⊢
      rw [Array.getElem?_append_right (by rw [h1.1]; omega), h1.1]; exact this

theorem yieldsA.mono {y : Fun0} {K K' : Store → Prop} (hk : ∀ σ, K σ → K' σ) : ∀ {xs : List (List AV)} {σ : Store}, yieldsA y xs σ K → yieldsA y xs σ K'
  | [], _, h => hk _ h
  | _ :: _, _, h => AInv.mono h fun _ _ ⟨b, h1, h2, h3⟩ => ⟨b, h1, fun e => yieldsA.mono hk (h2 e), fun e => hk _ (h3 e)⟩

theorem fill_d (hD : DiskAt σ F d D) (hw : D.Wf n M) (b : List UInt8) (hn : n + b.length ≤ 10000000) (hM : M ≤ 1000000) (R : AV → Store → Prop)
    (hR : ∀ σ', DiskAt σ' F d (D.fill b).1 → Keeps σ F σ' F → R (i64 (D.fill b).2) σ') : ACalls P 40 [ptrA d, bys b] σ R := by
  refine AInv.seen (AInv.of_body ok Try.func40 rfl (by decide) rfl ?_)
  conv => whnf
  refine .inl ?_
  conv => whnf
  intro t ht
  conv => whnf
  refine chunk_p b _ _ ?_
  conv => whnf
  refine AW.rangeFunc rfl Try.func70 rfl rfl fun l r hl hst hpd hps has hbd htm => ?_
  have hl2 := Store.set_fresh hl
  have htF : ¬ F t := hD.not ht
  have hlF : ¬ F l := hD.not hl2.2
  refine chunk1_p b (by omega) ⟨.yield l, [], []⟩ _ _ (yieldsA.mono (K := fun σ' => ∃ r', σ' l = some (.loop r' ((8, AV.fn (Fn.func 70) [] [AV.iptr [bys b], AV.iptr [i64 64]]) :: (7, bys b) :: (4, ptrA t) :: (2, AV.iptr (ptrA d).cells) :: entryE 0 ([] ++ [ptrA d, bys b] ++ []))) ∧
      DiskAt σ' F d (D.fill b).1 ∧ (∀ x o, σ x = some o → ¬ F x → σ' x = some o) ∧
      (((D.fill b).2 = 0 ∧ r'.state = .ready ∧ r'.pending = none ∧ ∃ c, σ' t = some (.row [c])) ∨ ((D.fill b).2 ≠ 0 ∧ r'.state = .done ∧ r'.pending = some .ret ∧ σ' t = some (.row [i64 (D.fill b).2])))) ?_ ?_)
  · rintro σ' ⟨r', h1, h2, h3, h4⟩
    have hdel : DiskAt (σ'.del l) F d (D.fill b).1 := h2.del hlF
    have hkp : ∀ x o, σ x = some o → x ≠ t ∧ x ≠ l := fun x o hx => ⟨Store.fresh_ne ht hx, Store.fresh_ne hl2.2 hx⟩
    rcases h4 with ⟨e0, h5, h6, c, h7⟩ | ⟨e0, h5, h6, h7⟩
    · refine ⟨r', h1, by rw [h5]; simp, ?_⟩
      rw [h6]
      conv => whnf
      refine ⟨_, by rw [Store.del_ne _ (Ne.symm hl2.1)]; exact h7, by show 0 + 1 ≤ 1; omega, ?_⟩
      conv => whnf
      refine ⟨_, Store.get_set _ _ _, ?_⟩
      conv => whnf
      refine seen ?_
      have := hR ((σ'.del l).set t (.row [.val (.int .i64 0)])) (hdel.set htF _) (fun x o hx hn => ⟨by rw [Store.get_set_ne _ (hkp x o hx).1, Store.del_ne _ (hkp x o hx).2]; exact h3 x o hx hn, hn⟩)
      rw [e0] at this; exact this
    · refine ⟨r', h1, by rw [h5]; simp, ?_⟩
      rw [h6]
      refine codeA_sound ok _ ?_
      conv => whnf
      refine ⟨_, by rw [Store.del_ne _ (Ne.symm hl2.1)]; exact h7, ?_⟩
      conv => whnf
      exact seen (hR (σ'.del l) hdel (fun x o hx hn => ⟨by rw [Store.del_ne _ (hkp x o hx).2]; exact h3 x o hx hn, hn⟩))
  · have key : ∀ (xs : List (List UInt8)) (D' : Dk) (n' : Nat) (τ : Store) (r' : Loop), D'.Wf n' M → n' + xs.flatten.length ≤ 10000000 → DiskAt τ F d D' → (∀ x o, σ x = some o → ¬ F x → τ x = some o) →
        τ l = some (.loop r' ((8, AV.fn (Fn.func 70) [] [AV.iptr [bys b], AV.iptr [i64 64]]) :: (7, bys b) :: (4, ptrA t) :: (2, AV.iptr (ptrA d).cells) :: entryE 0 ([] ++ [ptrA d, bys b] ++ []))) →
        r'.state = .ready → r'.pending = none → r'.params = r.params → r'.assign = r.assign → r'.body = r.body → r'.tmps.size = r.tmps.size → (∃ c, τ t = some (.row [c])) → D'.fillL xs = D.fill b →
        yieldsA ⟨.yield l, [], []⟩ (xs.map fun c => [bys c]) τ fun σ' => ∃ r', σ' l = some (.loop r' ((8, AV.fn (Fn.func 70) [] [AV.iptr [bys b], AV.iptr [i64 64]]) :: (7, bys b) :: (4, ptrA t) :: (2, AV.iptr (ptrA d).cells) :: entryE 0 ([] ++ [ptrA d, bys b] ++ []))) ∧
          DiskAt σ' F d (D.fill b).1 ∧ (∀ x o, σ x = some o → ¬ F x → σ' x = some o) ∧
          (((D.fill b).2 = 0 ∧ r'.state = .ready ∧ r'.pending = none ∧ ∃ c, σ' t = some (.row [c])) ∨ ((D.fill b).2 ≠ 0 ∧ r'.state = .done ∧ r'.pending = some .ret ∧ σ' t = some (.row [i64 (D.fill b).2]))) := by
      intro xs
      induction xs with
      | nil =>
        intro D' n' τ r' hw' hn' hD' hk' hl' hs' hp' _ _ _ _ ht' hfe
        have e1 : D.fill b = (D', 0) := hfe.symm
        rw [e1]
        exact ⟨r', hl', hD', hk', .inl ⟨rfl, hs', hp', ht'⟩⟩
      | cons x xs ih =>
        intro D' n' τ r' hw' hn' hD' hk' hl' hs' hp' hps' has' hbd' htm' ht' hfe
        have hx : x.length + xs.flatten.length = (x :: xs).flatten.length := by simp
        refine yield_rule hl' hs' (htm'.trans htm) (by rw [hps', hps]; rfl) (by rw [hps', hps]; intro p hp; simp at hp; subst hp; decide) ?_
        rw [hps', hps, has', has, hbd', hbd]
        refine codeA_sound ok _ ?_
        conv => whnf
        refine ⟨rfl, rfl, ?_⟩
        refine codeA_sound ok _ ?_
        conv => whnf
        have htl : t ≠ l := Ne.symm hl2.1
        refine append_d (hD'.set hlF _) (hw'.ok (by omega) hM) tmpN x (by omega) _ fun σ2 hD2 hk2 => ?_
        conv => whnf
        have hl3 := (hk2 l _ (Store.get_set _ _ _) hlF).1
        obtain ⟨c, hc⟩ := ht'
        have ht3 := (hk2 t _ (by rw [Store.get_set_ne _ htl]; exact hc) htF).1
        have hk3 : ∀ x o, σ x = some o → ¬ F x → σ2 x = some o := fun x o hx hn => (hk2 x o (by rw [Store.get_set_ne _ (Store.fresh_ne hl2.2 hx)]; exact hk' x o hx hn) hn).1
        refine bcase_intro (fun hb => ?_) (fun hb => ?_) <;> (try rw [hb]); conv => whnf
        · have he : (D'.append tmpN x).2 ≠ 0 := by simpa using hb
          have hf : D.fill b = D'.append tmpN x := by rw [← hfe]; simp only [Dk.fillL]; rw [if_pos he]
          refine ⟨_, ht3, by show 0 + 1 ≤ 1; omega, ?_⟩
          conv => whnf
          refine ⟨by rw [Store.get_set_ne _ (Ne.symm htl), hps', hps, has', has, hbd', hbd]; exact hl3, false, rfl, (fun h => by cases h), fun _ => ?_⟩
          rw [hf]
          refine ⟨_, Store.get_set _ _ _, (hD2.set htF _).set hlF _, fun x o hx hn => ?_, .inr ⟨he, rfl, rfl, ?_⟩⟩
          · rw [Store.get_set_ne _ (Store.fresh_ne hl2.2 hx), Store.get_set_ne _ (Store.fresh_ne ht hx)]; exact hk3 x o hx hn
          · rw [Store.get_set_ne _ htl, Store.get_set]; rfl
        · have he : (D'.append tmpN x).2 = 0 := by simpa using hb
          have hf : (D'.append tmpN x).1.fillL xs = D.fill b := by rw [← hfe]; simp only [Dk.fillL]; rw [if_neg (by simp [he])]
          refine ⟨by rw [hps', hps, has', has, hbd', hbd]; exact hl3, true, rfl, fun _ => ?_, (fun h => by cases h)⟩
          refine ih (D'.append tmpN x).1 (n' + x.length) _ _ (hw'.append tmpN x) (by omega) (hD2.set hlF _) (fun x o hx hn => ?_) (Store.get_set _ _ _) rfl rfl hps' has' hbd' htm' ⟨c, by rw [Store.get_set_ne _ htl]; exact ht3⟩ hf
          rw [Store.get_set_ne _ (Store.fresh_ne hl2.2 hx)]; exact hk3 x o hx hn
    refine key (chunks b) D n _ r hw (by rw [chunks_flat]; exact hn) ((hD.new ht _).set hlF _) (fun x o hx hn => ?_) (Store.get_set _ _ _) hst hpd rfl rfl rfl rfl ⟨_, by rw [Store.get_set_ne _ (Ne.symm hl2.1)]; exact Store.get_set _ _ _⟩ rfl
    rw [Store.get_set_ne _ (Store.fresh_ne hl2.2 hx), Store.get_set_ne _ (Store.fresh_ne ht hx)]; exact hx

/-! ### A file put in its place -/

def putR (name : ByteArray) (b : List UInt8) : Opr := fun D r => (rightP name = false ∧ r = (D, 1)) ∨ (rightP name = true ∧
  (((D.remove tmpN).2 ≠ 0 ∧ (D.remove tmpN).2 ≠ 2 ∧ r = D.remove tmpN) ∨ (((D.remove tmpN).2 = 0 ∨ (D.remove tmpN).2 = 2) ∧
    seqR (createR tmpN) (seqR (fnR fun D => D.fill b) (seqR (fnR fun D => D.sync tmpN) (seqR (fnR fun D => D.rename tmpN name) (fnR fun D => D.syncNames)))) (D.remove tmpN).1 r)))

theorem Dk.Wf.fill {D : Dk} {n M : Nat} (h : D.Wf n M) (b : List UInt8) : (D.fill b).1.Wf (n + b.length) M := by
  have := h.fillL (xs := chunks b)
  rw [chunks_flat] at this; exact this

theorem put_d (hD : DiskAt σ F d D) (hw : D.Wf n M) (name : ByteArray) (b : List UInt8) (hn : n + b.length ≤ 10000000) (hM : M + 3 ≤ 1000000) (R : AV → Store → Prop)
    (hR : ∀ r, putR name b D r → ∀ σ' F', DiskAt σ' F' d r.1 → Keeps σ F σ' F' → R (i64 r.2) σ') : ACalls P 19 [ptrA d, .val (.string name), bys b] σ R := by
  refine AInv.seen (AInv.of_body ok Try.func19 rfl (by decide) rfl ?_)
  conv => whnf
  refine .inl ?_
  conv => whnf
  refine .inl ?_
  conv => whnf
  refine .inl ?_
  conv => whnf
  refine placeRight_v name _ _ ?_
  conv => whnf
  refine bcase_intro (fun hb => ?_) (fun hb => ?_) <;> (try rw [hb]); conv => whnf
  · have hp : rightP name = false := by
      have hb2 : (!rightP name) = true := hb
      simpa only [Bool.not_eq_true'] using hb2
    exact seen (hR _ (.inl ⟨hp, rfl⟩) _ _ hD (.refl _ _))
  · have hp : rightP name = true := by
      have hb2 : (!rightP name) = false := hb
      simpa only [Bool.not_eq_false'] using hb2
    conv => whnf
    refine remove_d hD (hw.ok (by omega) (by omega)) tmpN _ fun σ0 F0 hD0 hk0 => ?_
    have hw0 := hw.remove tmpN
    conv => whnf
    have hbad : (D.remove tmpN).2 ≠ 0 → (D.remove tmpN).2 ≠ 2 → R (i64 (D.remove tmpN).2) σ0 := fun h1 h2 => hR _ (.inr ⟨hp, .inl ⟨h1, h2, rfl⟩⟩) _ _ hD0 hk0
    have hgood : ((D.remove tmpN).2 = 0 ∨ (D.remove tmpN).2 = 2) → ∀ r, seqR (createR tmpN) (seqR (fnR fun D => D.fill b) (seqR (fnR fun D => D.sync tmpN) (seqR (fnR fun D => D.rename tmpN name) (fnR fun D => D.syncNames)))) (D.remove tmpN).1 r →
        ∀ σ' F', DiskAt σ' F' d r.1 → Keeps σ0 F0 σ' F' → R (i64 r.2) σ' := fun h1 r hr σ' F' h2 h3 => hR _ (.inr ⟨hp, .inr ⟨h1, hr⟩⟩) _ _ h2 (hk0.trans h3)
    generalize D.remove tmpN = r0 at *
    obtain ⟨D0, e0⟩ := r0
    dsimp only at hD0 hw0 hbad hgood ⊢
    by_cases h0 : e0 = 0
    rotate_left
    by_cases h2 : e0 = 2
    rotate_left
    · have e1 : (e0 != 0) = true := by simpa using h0
      have e2 : (e0 != 2) = true := by simpa using h2
      rw [e1]
      conv => whnf
      rw [e2]
      conv => whnf
      exact seen (hbad h0 h2)
    all_goals
      have hg : e0 = 0 ∨ e0 = 2 := by first | exact .inl h0 | exact .inr h2
      first | subst h0 | subst h2
      conv => whnf
      intro t ht
      conv => whnf
      have hR2 := hgood hg
      refine AInv.frz1 (frz_funs (l := [⟨.func 37, [], [.iptr [ptrA d]]⟩, ⟨.func 39, [], [.iptr [ptrA d], .iptr [bys b]]⟩, ⟨.func 41, [], [.iptr [ptrA d]]⟩,
        ⟨.func 42, [], [.iptr [ptrA d], .iptr [.val (.string name)]]⟩, ⟨.func 44, [ptrA d], []⟩]) ht) (all_p _ (by simp) _ _ ?_)
      refine AInv.seen (AInv.of_body ok Try.func37 rfl (by decide) rfl ?_)
      conv => whnf
      refine create_r hD0 hw0 (by omega) (by omega) tmpN _ fun r1 h1 σ1 F1 hD1 hk1 => ?_
      have hw1 := h1.wf hw0
      obtain ⟨D1, e1⟩ := r1
      dsimp only at hD1 hw1 ⊢
      conv => whnf
      refine seen ⟨e1, rfl, fun he => ?_, fun he => ?_⟩
      · conv => whnf
        exact seen (hR2 _ ⟨_, h1, .inl ⟨he, rfl⟩⟩ _ _ hD1 hk1)
      refine AInv.seen (AInv.of_body ok Try.func39 rfl (by decide) rfl ?_)
      conv => whnf
      refine fill_d hD1 hw1 b hn (by omega) _ fun σ2 hD2 hk2 => ?_
      conv => whnf
      have hw2 := hw1.fill b
      refine seen ⟨_, rfl, fun he2 => ?_, fun he2 => ?_⟩
      · conv => whnf
        exact seen (hR2 _ ⟨_, h1, .inr ⟨he, _, rfl, .inl ⟨he2, rfl⟩⟩⟩ _ _ hD2 (hk1.trans hk2))
      refine AInv.seen (AInv.of_body ok Try.func41 rfl (by decide) rfl ?_)
      conv => whnf
      refine sync_d hD2 (hw2.ok hn (by omega)) tmpN _ fun σ3 hD3 hk3 => ?_
      conv => whnf
      have hw3 := hw2.sync tmpN
      refine seen ⟨_, rfl, fun he3 => ?_, fun he3 => ?_⟩
      · conv => whnf
        exact seen (hR2 _ ⟨_, h1, .inr ⟨he, _, rfl, .inr ⟨he2, _, rfl, .inl ⟨he3, rfl⟩⟩⟩⟩ _ _ hD3 ((hk1.trans hk2).trans hk3))
      refine AInv.seen (AInv.of_body ok Try.func42 rfl (by decide) rfl ?_)
      conv => whnf
      refine rename_d hD3 (hw3.ok hn (by omega)) tmpN name _ fun σ4 F4 hD4 hk4 => ?_
      conv => whnf
      have hw4 := hw3.rename tmpN name
      refine seen ⟨_, rfl, fun he4 => ?_, fun he4 => ?_⟩
      · conv => whnf
        exact seen (hR2 _ ⟨_, h1, .inr ⟨he, _, rfl, .inr ⟨he2, _, rfl, .inr ⟨he3, _, rfl, .inl ⟨he4, rfl⟩⟩⟩⟩⟩ _ _ hD4 (((hk1.trans hk2).trans hk3).trans hk4))
      refine AInv.bound (syncNames_d hD4 (hw4.ok hn (by omega)) _ fun σ5 F5 hD5 hk5 => ?_)
      have hf5 := hR2 _ ⟨_, h1, .inr ⟨he, _, rfl, .inr ⟨he2, _, rfl, .inr ⟨he3, _, rfl, .inr ⟨he4, rfl⟩⟩⟩⟩⟩ _ _ hD5 ((((hk1.trans hk2).trans hk3).trans hk4).trans hk5)
      refine ⟨_, rfl, fun _ => ?_, fun he5 => ?_⟩
      · conv => whnf
        exact seen hf5
      · conv => whnf
        dsimp only at hf5
        rw [he5] at hf5
        exact seen hf5

end Go.Cr.Try

namespace Go.Cr.Try
open Go Go.Cr Go.Proofs

def journalN : ByteArray := ⟨#[106, 111, 117, 114, 110, 97, 108]⟩

/-- What comes of opening the journal: what is told, the error, the disk behind. -/
def openR (D : Dk) (l : List (List UInt8)) (e : Int) (D' : Dk) : Prop :=
  ((D.read journalN).2 = 2 ∧ l = [] ∧ e = 0 ∧ D' = D.rdy.1) ∨
  ((D.read journalN).2 ≠ 0 ∧ (D.read journalN).2 ≠ 2 ∧ l = [] ∧ e = (D.read journalN).2 ∧ D' = D.rdy.1) ∨
  ((D.read journalN).2 = 0 ∧ (((allL (D.read journalN).1).2 = (D.read journalN).1.length ∧ l = (allL (D.read journalN).1).1 ∧ e = 0 ∧ D' = D.rdy.1) ∨
    ((allL (D.read journalN).1).2 ≠ (D.read journalN).1.length ∧ ∃ r, putR journalN ((D.read journalN).1.take (allL (D.read journalN).1).2) D.rdy.1 r ∧ D' = r.1 ∧ e = r.2 ∧ l = if r.2 = 0 then (allL (D.read journalN).1).1 else [])))

def addR (x : List UInt8) : Opr := fun D r => (x.length > 4096 ∧ r = (D, 3)) ∨ (x.length ≤ 4096 ∧ growR journalN (frameL x) D r)

theorem allF_le : ∀ (n : Nat) (b : List UInt8), (allF n b).2 ≤ b.length
  | 0, _ => Nat.zero_le _
  | n + 1, b => by
    simp only [allF]
    cases hp : parse1 b with
    | none => exact Nat.zero_le _
    | some p =>
      obtain ⟨x, k⟩ := p
      have h1 := parse1_le hp
      have h2 := allF_le n (b.drop k)
      rw [List.length_drop] at h2
      dsimp only
      omega
theorem allL_le (b : List UInt8) : (allL b).2 ≤ b.length := allF_le _ _

theorem frameL_length (x : List UInt8) : (frameL x).length = x.length + 8 := by
  simp [frameL, sealed, fix4, fixI_len]; omega

variable {σ : Store} {F : Nat → Prop} {d : Nat} {D : Dk} {n M : Nat}

theorem Dk.Wf.read_le (hw : D.Wf n M) (name : ByteArray) : (D.read name).1.length ≤ n := by
  unfold Dk.read
  split
  · simp
  · split
    · simp
    · rename_i f hf
      obtain ⟨c, k, h1, h2, h3, h4, h5, h6⟩ := hw.nget hf
      rw [h2]; exact h6

theorem open_d (hD : DiskAt σ F d D) (hw : D.Wf n M) (hn : 2 * n ≤ 10000000) (hM : M + 3 ≤ 1000000) (R : AV → Store → Prop)
    (hR : ∀ l e D', openR D l e D' → ∀ σ' F', DiskAt σ' F' d D' → Keeps σ F σ' F' → R (.tup [byss l, i64 e]) σ') : ACalls P 10 [ptrA d] σ R := by
  refine AInv.seen (AInv.of_body ok Try.func10 rfl (by decide) rfl ?_)
  conv => whnf
  refine read_d hD (hw.ok (by omega) (by omega)) journalN _ fun σ1 hD1 hk1 => ?_
  have hbl := hw.read_le journalN
  have hopen : ∀ l e D', openR D l e D' → ∀ σ' F', DiskAt σ' F' d D' → Keeps σ1 F σ' F' → R (.tup [byss l, i64 e]) σ' := fun l e D' h σ' F' h1 h2 => hR l e D' h σ' F' h1 (hk1.trans h2)
  unfold openR at hopen
  generalize D.read journalN = rd at hbl hopen ⊢
  obtain ⟨b, e⟩ := rd
  dsimp only at hbl hopen ⊢
  conv => whnf
  refine bcase_intro (fun hb => ?_) (fun hb => ?_) <;> (try rw [hb]); conv => whnf
  · have he : e = 0 := by simpa using hb
    subst he
    refine all_v b (by omega) _ _ ?_
    have hle := allL_le b
    conv => whnf
    have hL : (b.map u8).length = b.length := List.length_map _
    refine bcase_intro (fun hb => ?_) (fun hb => ?_)
    · have hfull : (allL b).2 = b.length := by
        have h2 : ((((allL b).2 : Nat) : Int) == (((b.map u8).length : Nat) : Int)) = true := hb
        rw [hL] at h2
        have := eq_of_beq h2
        omega
      rw [hb]
      conv => whnf
      exact seen (hopen _ _ _ (.inr (.inr ⟨rfl, .inl ⟨hfull, rfl, rfl, rfl⟩⟩)) _ _ hD1 (.refl _ _))
    · have hfull : (allL b).2 ≠ b.length := fun e => by
        have h2 : ((((allL b).2 : Nat) : Int) == (((b.map u8).length : Nat) : Int)) = false := hb
        rw [hL, e] at h2
        simp at h2
      rw [hb]
      conv => whnf
      refine ⟨Int.le_refl _, by omega, by rw [hL]; omega, ?_⟩
      conv => whnf
      have e1 : AV.sl 1 (((b.map u8).drop ((0 : Nat) : Int).toNat).take ((((allL b).2 : Nat) : Int).toNat - ((0 : Nat) : Int).toNat)) = bys (b.take (allL b).2) := by
        rw [sl_part]; simp
      rw [e1]
      have htl : (b.take (allL b).2).length ≤ n := by rw [List.length_take]; omega
      refine put_d hD1 hw.rdy journalN _ (by omega) hM _ fun r hr σ2 F2 hD2 hk2 => ?_
      obtain ⟨D2, e2⟩ := r
      dsimp only at hD2 ⊢
      conv => whnf
      refine bcase_intro (fun hb => ?_) (fun hb => ?_) <;> (try rw [hb]); conv => whnf
      · have he : e2 ≠ 0 := by simpa using hb
        refine ⟨_, _, .tup1 (.nil (.refl _)), hopen [] e2 D2 (.inr (.inr ⟨rfl, .inr ⟨hfull, _, hr, rfl, rfl, by rw [if_neg he]⟩⟩)) _ _ hD2 hk2⟩
      · have he : e2 = 0 := by simpa using hb
        subst he
        exact seen (hopen _ 0 D2 (.inr (.inr ⟨rfl, .inr ⟨hfull, _, hr, rfl, rfl, by rw [if_pos rfl]⟩⟩)) _ _ hD2 hk2)
  · have he : e ≠ 0 := by simpa using hb
    conv => whnf
    refine bcase_intro (fun hb => ?_) (fun hb => ?_) <;> (try rw [hb]); conv => whnf
    · have he2 : e = 2 := by simpa using hb
      exact ⟨_, _, .tup1 (.nil (.refl _)), hopen [] 0 _ (.inl ⟨he2, rfl, rfl, rfl⟩) _ _ hD1 (.refl _ _)⟩
    · have he2 : e ≠ 2 := by simpa using hb
      conv => whnf
      exact ⟨_, _, .tup1 (.nil (.refl _)), hopen [] e _ (.inr (.inl ⟨he, he2, rfl, rfl, rfl⟩)) _ _ hD1 (.refl _ _)⟩

theorem add_d (hD : DiskAt σ F d D) (hw : D.Wf n M) (x : List UInt8) (hx : x.length ≤ 10000) (hn : n + x.length + 8 ≤ 10000000) (hM : M + 1 ≤ 1000000) (R : AV → Store → Prop)
    (hR : ∀ r, addR x D r → ∀ σ' F', DiskAt σ' F' d r.1 → Keeps σ F σ' F' → R (i64 r.2) σ') : ACalls P 8 [ptrA d, bys x] σ R := by
  refine AInv.seen (AInv.of_body ok Try.func8 rfl (by decide) rfl ?_)
  conv => whnf
  refine put_v x hx _ _ (fun hgt => ?_) (fun hle => ?_)
  · conv => whnf
    exact seen (hR _ (.inl ⟨hgt, rfl⟩) _ _ hD (.refl _ _))
  · conv => whnf
    refine grow_d hD hw journalN (frameL x) (by rw [frameL_length]; omega) hM _ fun r hr σ1 F1 hD1 hk1 => ?_
    conv => whnf
    exact seen (hR _ (.inr ⟨hle, hr⟩) _ _ hD1 hk1)

end Go.Cr.Try

namespace Go.Cr.Try
open Go Go.Cr Go.Proofs

/-! ### Lists of bytes, held against each other -/

theorem same_v (a b : List (List UInt8)) (ha : a.length ≤ 1000000000) (σ : Store) (R : AV → Store → Prop) (h : R (.val (.bool (decide (a = b)))) σ) : ACalls P 11 [byss a, byss b] σ R := by
  refine AInv.seen (AInv.of_body ok Try.func11 rfl (by decide) rfl ?_)
  conv => whnf
  have hLa : (a.map bys).length = a.length := List.length_map _
  have hLb : (b.map bys).length = b.length := List.length_map _
  refine bcase_intro (fun hb => ?_) (fun hb => ?_) <;> (try rw [hb]); conv => whnf
  · have hne : a ≠ b := fun e => by subst e; simp at hb
    rw [decide_eq_false hne] at h
    exact seen h
  · have hlen : a.length = b.length := by
      rw [hLa, hLb] at hb; simp at hb; omega
    conv => whnf
    refine AW.loop ok (ι := Nat) (fun i => i ≤ a.length ∧ a.take i = b.take i) (fun i => [(5, i64 (i : Int)), (4, .val (.bool false)), (1, byss b), (0, byss a)]) (fun _ => σ) (fun i => a.length - i) 0 ⟨Nat.zero_le _, by simp⟩
      (.cons rfl (.cons rfl (.cons rfl (.cons rfl (.nil _))))) (.refl _) ?_
    rintro i ⟨hi, heq⟩
    dsimp only at hi heq ⊢
    conv => whnf
    refine bcase_intro (fun hb => ?_) (fun hb => ?_) <;> (try rw [hb]); conv => whnf
    · have hlt : i < a.length := by rw [hLa] at hb; simp at hb; omega
      refine AW.draw ok mixed rfl rfl ?_
      conv => whnf
      refine ⟨_, Int.natCast_nonneg _, byss_get hlt, ?_⟩
      conv => whnf
      refine ⟨a[i], rfl, ?_⟩
      conv => whnf
      refine ⟨_, Int.natCast_nonneg _, byss_get (by omega : i < b.length), ?_⟩
      conv => whnf
      refine ⟨b[i], rfl, ?_⟩
      conv => whnf
      have e1 : (!((⟨a[i].toArray⟩ : ByteArray).toList == (⟨b[i].toArray⟩ : ByteArray).toList)) = decide (a[i] ≠ b[i]) := by
        rw [toList_beq]
        by_cases hx : a[i] = b[i]
        · simp [hx]
        · rw [decide_eq_true hx, decide_eq_false (fun e => hx (by simpa using congrArg (fun s : ByteArray => s.data.toList) e))]; rfl
      rw [e1]
      refine bcase_intro (fun hb => ?_) (fun hb => ?_) <;> (try rw [hb]); conv => whnf
      · have hx : a[i] ≠ b[i] := of_decide_eq_true hb
        have hne : a ≠ b := fun e => hx (by subst e; rfl)
        rw [decide_eq_false hne] at h
        exact seen h
      · have hx : a[i] = b[i] := by
          have := of_decide_eq_false hb
          exact Classical.byContradiction this
        conv => whnf
        refine ⟨i + 1, ⟨by omega, ?_⟩, by dsimp only; omega, .idx rfl (by omega) (.cons rfl (.cons rfl (.cons rfl (.nil _)))), .refl _⟩
        rw [List.take_add_one, List.take_add_one, heq, List.getElem?_eq_getElem hlt, List.getElem?_eq_getElem (by omega : i < b.length), hx]
    · have hi' : i = a.length := by rw [hLa] at hb; simp at hb; omega
      subst hi'
      have hab : a = b := by
        rw [List.take_length, hlen, List.take_length] at heq; exact heq
      rw [decide_eq_true hab] at h
      conv => whnf
      exact seen h

/-- Lists of bytes in a row of one's own. -/
theorem view_rows {b : Nat} {l : List (List UInt8)} {σ : Store} (hb : σ b = some (.row (l.map bys))) {w : World} {v : Value} (hrel : Rel σ w) (hv : VR σ w (.arr b 0 l.length 1) v) : VR emptyS w (byss l) v := by
  have hf : ∀ l : List (List UInt8), (l.map bys).flatMap AV.cells = l.map bys := fun l => by
    induction l with
    | nil => rfl
    | cons y l ih => simp only [List.map_cons, List.flatMap_cons, ih]; rfl
  exact (Frz.sl (l := l.map bys) (σ' := emptyS) hb (fun _ _ h => by cases h) rfl (List.length_map _) (by intro u hu; obtain ⟨y, _, rfl⟩ := List.mem_map.1 hu; rfl) (by rw [hf, List.drop_zero, List.take_of_length_le (by simp)])).2 w v hrel hv

/-- Same, of what is told and of a row of one's own. -/
theorem same_row (a l : List (List UInt8)) (ha : a.length ≤ 1000000000) {b : Nat} {σ : Store} (hb : σ b = some (.row (l.map bys))) (R : AV → Store → Prop) (h : R (.val (.bool (decide (a = l)))) σ) :
    ACalls P 11 [byss a, .arr b 0 l.length 1] σ R := by
  refine AInv.pure (args' := [byss a, byss l]) (Q := fun v => v = .bool (decide (a = l))) (fun w va hrel hva => ⟨hva.1, fun i y hy => ?_⟩) (same_v a l ha _ _ ⟨_, rfl, rfl⟩) (fun v hv => by rw [hv]; exact h)
  match i with
  | 0 => injection hy with hy; subst hy; exact (hva.2 0 _ rfl).less fun _ _ => rfl
  | 1 => injection hy with hy; subst hy; exact view_rows hb hrel (hva.2 1 _ rfl)
  | _ + 2 => cases hy

/-- The same, of a list that is nil. -/
theorem same_nil (a : List (List UInt8)) (ha : a.length ≤ 1000000000) {σ : Store} (R : AV → Store → Prop) (h : R (.val (.bool (decide (a = [])))) σ) :
    ACalls P 11 [byss a, .val (.slice none 0 0)] σ R := by
  refine AInv.pure (args' := [byss a, byss []]) (Q := fun v => v = .bool (decide (a = []))) (fun w va hrel hva => ⟨hva.1, fun i y hy => ?_⟩) (same_v a [] ha _ _ ⟨_, rfl, rfl⟩) (fun v hv => by rw [hv]; exact h)
  match i with
  | 0 => injection hy with hy; subst hy; exact (hva.2 0 _ rfl).less fun _ _ => rfl
  | 1 => injection hy with hy; subst hy; have := hva.2 1 _ rfl; generalize va.getD 1 undefV = u at this; cases this; exact .sl0 _ _ _
  | _ + 2 => cases hy

end Go.Cr.Try

namespace Go.Cr.Try
open Go Go.Cr Go.Proofs

structure ActL where
  kind : UInt8
  b : List UInt8
  w : Wrk
  n : Int
def ActL.cells (a : ActL) : List AV := [u8 a.kind, bys a.b, i64 a.w.names, ints a.w.bytes, i64 a.n]
def ActL.av (a : ActL) : AV := .agg a.cells
def acts (l : List ActL) : AV := .sl 5 (l.map ActL.av)
def ActL.small (a : ActL) : Bool := decide (a.b.length ≤ 100) && decide (a.w.bytes.length ≤ 50)
def fewL (l : List ActL) : List ActL := (l.take 60).filter ActL.small

theorem acts_len (l : List ActL) : (l.flatMap ActL.cells).length = l.length * 5 := by
  induction l with
  | nil => rfl
  | cons c l ih => simp only [List.flatMap_cons, List.length_append, ih, List.length_cons]; show 5 + _ = _; omega

def fewS (σ : Store) (ob : Option Nat) (l : List ActL) : Store := match ob with
  | none => σ
  | some b => σ.set b (.row (l.flatMap ActL.cells))
def fewV (ob : Option Nat) (n : Nat) : AV := match ob with
  | none => .val (.slice none 0 0)
  | some b => .arr b 0 n 5

theorem few_v (l : List ActL) (hl : l.length ≤ 9223372036854775807) (σ : Store) (R : AV → Store → Prop) (h : R (acts (fewL l)) σ) : ACalls P 6 [acts l] σ R := by
  refine AInv.seen (AInv.of_body ok Try.func6 rfl (by decide) rfl ?_)
  conv => whnf
  have hL : (l.map ActL.av).length = l.length := List.length_map _
  refine AW.loop ok (ι := Nat × Option Nat) (fun i => i.1 ≤ l.length ∧ (i.2 = none → ((l.take i.1).take 60).filter ActL.small = []) ∧ (∀ b, i.2 = some b → σ b = none))
    (fun i => [(8, i64 (i.1 : Int)), (7, i64 ((l.map ActL.av).length : Nat)), (6, acts l), (3, fewV i.2 (((l.take i.1).take 60).filter ActL.small).length)])
    (fun i => fewS σ i.2 (((l.take i.1).take 60).filter ActL.small)) (fun i => l.length - i.1) (0, none) ⟨Nat.zero_le _, by simp, by simp⟩ (.cons rfl (.cons rfl (.cons rfl (.cons rfl (.nil _))))) (.refl _) ?_
  rintro ⟨i, ob⟩ ⟨hi, hno, hso⟩
  dsimp only at hi hno hso ⊢
  conv => whnf
  refine bcase_intro (fun hb => ?_) (fun hb => ?_) <;> (try rw [hb]); conv => whnf
  · have hlt : i < l.length := by rw [hL] at hb; simp at hb; omega
    refine ⟨l[i].av, Int.natCast_nonneg _, by simp [hlt], ?_⟩
    have htk : l.take (i + 1) = l.take i ++ [l[i]] := by rw [List.take_add_one, List.getElem?_eq_getElem hlt]; rfl
    have hf60 : ((l.take (i + 1)).take 60).filter ActL.small = ((l.take i).take 60).filter ActL.small ++ (if i < 60 ∧ l[i].small = true then [l[i]] else []) := by
      rw [htk, List.take_append, List.length_take, List.filter_append]
      congr 1
      have hm : min i l.length = i := by omega
      rw [hm]
      by_cases h6 : i < 60
      · rw [List.take_of_length_le (by simp; omega)]
        simp only [List.filter_cons, List.filter_nil, h6, true_and]
      · rw [show 60 - i = 0 by omega, List.take_zero, List.filter_nil, if_neg (fun h => h6 h.1)]
    generalize l[i] = a at hf60 htk ⊢
    obtain ⟨kind, b, ⟨wn, wb⟩, n⟩ := a
    have hA : (ActL.mk kind b ⟨wn, wb⟩ n).small = (decide (b.length ≤ 100) && decide (wb.length ≤ 50)) := rfl
    have hLb : (b.map u8).length = b.length := List.length_map _
    have hLw : (wb.map fun n => i64 n).length = wb.length := List.length_map _
    conv => whnf
    refine ⟨Nat.le_refl 5, ?_⟩
    conv => whnf
    intro t ht
    conv => whnf
    refine ⟨_, Store.get_set _ _ _, Nat.le_refl 5, ?_⟩
    conv => whnf
    have hsk : ∀ o o', SubS (((fewS σ ob (((l.take i).take 60).filter ActL.small)).set t o).set t o') (fewS σ ob (((l.take i).take 60).filter ActL.small)) := fun o o' => by
      rw [Store.set_set]; exact SubS.set (.refl _) ht _
    have hskip : ¬ (i < 60 ∧ (decide (b.length ≤ 100) && decide (wb.length ≤ 50)) = true) → ((l.take (i + 1)).take 60).filter ActL.small = ((l.take i).take 60).filter ActL.small := fun hn => by
      rw [hf60, hA, if_neg hn, List.append_nil]
    refine bcase_intro (fun hb => ?_) (fun hb => ?_) <;> rw [hb] <;> conv => whnf
    · have h60 : i < 60 := by simp at hb; omega
      refine ⟨_, Store.get_set _ _ _, ?_⟩
      conv => whnf
      refine bcase_intro (fun hb => ?_) (fun hb => ?_) <;> rw [hb] <;> conv => whnf
      · have h100 : b.length ≤ 100 := by rw [hLb] at hb; simp at hb; omega
        refine ⟨_, Store.get_set _ _ _, ?_⟩
        conv => whnf
        refine bcase_intro (fun hb => ?_) (fun hb => ?_) <;> rw [hb] <;> conv => whnf
        · have h50 : wb.length ≤ 50 := by rw [hLw] at hb; simp at hb; omega
          have hadd : ((l.take (i + 1)).take 60).filter ActL.small = ((l.take i).take 60).filter ActL.small ++ [⟨kind, b, ⟨wn, wb⟩, n⟩] := by
            rw [hf60, hA, if_pos ⟨h60, by simp [h100, h50]⟩]
          refine ⟨_, Store.get_set _ _ _, Nat.le_refl 5, ?_⟩
          conv => whnf
          intro c hc
          conv => whnf
          refine ⟨_, Store.get_set _ _ _, Nat.le_refl 5, ?_⟩
          have hlen60 : (((l.take i).take 60).filter ActL.small).length ≤ 60 := Nat.le_trans (List.length_filter_le _ _) (by rw [List.length_take]; omega)
          have hc2 := Store.set_fresh hc
          have hc3 := Store.set_fresh hc2.2
          cases ob with
          | none =>
            have h0 := hno rfl
            rw [h0] at hadd hc ⊢
            have hb0 : σ t = none := ht
            conv => whnf
            refine ⟨by show 1 * 72 ≤ 140737488355328; omega, by omega, fun h0 => absurd h0 (by omega), fun _ b' hb' => ?_⟩
            conv => whnf
            have hb2 := Store.set_fresh hb'
            have hb3 := Store.set_fresh hb2.2
            have hb4 := Store.set_fresh hb3.2
            refine ⟨(i + 1, some b'), ⟨by dsimp only; omega, by simp, fun b'' e => by injection e with e; subst e; exact hb4.2⟩, by dsimp only; omega, .idx rfl (by omega) (.cons rfl (.cons rfl (.cons (by dsimp only; rw [hadd]; rfl) (.nil _)))), ?_⟩
            dsimp only
            rw [hadd]
            exact SubS.set2 (SubS.set (SubS.set (SubS.set (.refl σ) hb0 _) hb0 _) hc3.2 _) b' _
          | some e =>
            have hσ := hso e rfl
            have hec : e ≠ c := fun x => by rw [x] at hσ; have := hc3.2; rw [← x] at this; simp [fewS, Store.get_set] at this
            have het : e ≠ t := fun x => by rw [← x] at ht; simp [fewS, Store.get_set] at ht
            conv => whnf
            refine ⟨_, by rw [Store.get_set_ne _ hec, Store.get_set_ne _ het, Store.get_set_ne _ het]; exact Store.get_set _ _ _, rfl, by rw [acts_len], by show (_ + 1) * 72 ≤ 140737488355328; omega, by omega, fun b' hb' => ?_⟩
            conv => whnf
            have htσ : σ t = none := (Store.set_fresh (show (σ.set e _) t = none from ht)).2
            have hcσ : σ c = none := (Store.set_fresh (show (σ.set e _) c = none from hc3.2)).2
            have hsub : ∀ o1 o2 o3, SubS (((((fewS σ (some e) (((l.take i).take 60).filter ActL.small)).set t o1).set t o2).set c o3).del e) σ := fun o1 o2 o3 =>
              SubS.del (SubS.set (SubS.set (SubS.set (SubS.set (.refl _) hσ _) htσ _) htσ _) hcσ _) hσ
            refine ⟨(i + 1, some b'), ⟨by dsimp only; omega, by simp, fun b'' e => by injection e with e; subst e; exact (hsub _ _ _).none_ hb'⟩, by dsimp only; omega, .idx rfl (by omega) (.cons rfl (.cons rfl (.cons (by dsimp only; rw [hadd, List.length_append]; rfl) (.nil _)))), ?_⟩
            dsimp only
            rw [hadd]
            show SubS (Store.set _ b' _) (σ.set b' (.row ((((l.take i).take 60).filter ActL.small ++ [ActL.mk kind b ⟨wn, wb⟩ n]).flatMap ActL.cells)))
            rw [List.flatMap_append]
            exact SubS.set2 (hsub _ _ _) b' _
        · have h50 : ¬ wb.length ≤ 50 := by rw [hLw] at hb; simp at hb; omega
          have := hskip (fun h => by simp [h50] at h)
          refine ⟨(i + 1, ob), ⟨by dsimp only; omega, by dsimp only; rw [this]; exact hno, hso⟩, by dsimp only; omega, .idx rfl (by omega) (.cons rfl (.cons rfl (.cons (by dsimp only; rw [this]; rfl) (.nil _)))), by dsimp only; rw [this]; exact hsk _ _⟩
      · have h100 : ¬ b.length ≤ 100 := by rw [hLb] at hb; simp at hb; omega
        have := hskip (fun h => by simp [h100] at h)
        refine ⟨(i + 1, ob), ⟨by dsimp only; omega, by dsimp only; rw [this]; exact hno, hso⟩, by dsimp only; omega, .idx rfl (by omega) (.cons rfl (.cons rfl (.cons (by dsimp only; rw [this]; rfl) (.nil _)))), by dsimp only; rw [this]; exact hsk _ _⟩
    · have h60 : ¬ i < 60 := by simp at hb; omega
      have := hskip (fun h => h60 h.1)
      refine ⟨(i + 1, ob), ⟨by dsimp only; omega, by dsimp only; rw [this]; exact hno, hso⟩, by dsimp only; omega, .idx rfl (by omega) (.cons rfl (.cons rfl (.cons (by dsimp only; rw [this]; rfl) (.nil _)))), by dsimp only; rw [this]; exact hsk _ _⟩
  · have hi' : i = l.length := by rw [hL] at hb; simp at hb; omega
    subst hi'
    have e0 : ((l.take l.length).take 60).filter ActL.small = fewL l := by rw [List.take_length]; rfl
    rw [e0] at hno ⊢
    conv => whnf
    cases ob with
    | none =>
      refine ⟨_, _, Frz.nil (n := 5) (.refl _), ?_⟩
      unfold acts at h
      rw [hno rfl] at h
      exact h
    | some b =>
      have hf : ∀ l : List ActL, (l.map ActL.av).flatMap AV.cells = l.flatMap ActL.cells := fun l => by
        induction l with
        | nil => rfl
        | cons y l ih => simp only [List.map_cons, List.flatMap_cons, ih]; rfl
      refine ⟨_, _, Frz.sl (l := (fewL l).map ActL.av) (Store.get_set _ _ _) ((SubS.refl σ).set (hso b rfl) _) (hso b rfl) (List.length_map _) (by intro u hu; obtain ⟨y, _, rfl⟩ := List.mem_map.1 hu; rfl) (by rw [hf, List.drop_zero, List.take_of_length_le (by rw [acts_len]; exact Nat.le_refl _)]), h⟩

end Go.Cr.Try

namespace Go.Cr.Try
open Go Go.Cr Go.Proofs

/-! ### Frames, plain -/

theorem wrap_u64 {n : Int} (h0 : 0 ≤ n) (h1 : n < 18446744073709551616) : IntKind.wrap .u64 n = n := by
  simp [IntKind.wrap, IntKind.bits, IntKind.signed]; omega

theorem unfixStep_eq {v : Int} (h0 : 0 ≤ v) (h1 : v < 72057594037927936) (x : UInt8) : unfixStep v x = v * 256 + x.toNat := by
  have hx : x.toNat < 256 := x.toNat_lt
  obtain ⟨m, rfl⟩ : ∃ m : Nat, v = m := ⟨v.toNat, by omega⟩
  have e1 : shlK .u64 (m : Int) (Int.toNat 8) = ((m * 256 : Nat) : Int) := by
    unfold shlK
    have : (2 : Int) ^ min (Int.toNat 8) IntKind.u64.bits = 256 := by decide
    rw [this, wrap_u64 (by omega) (by omega)]; omega
  have e2 : IntKind.wrap .u64 (x.toNat : Int) = (x.toNat : Int) := wrap_u64 (by omega) (by omega)
  unfold unfixStep orK
  rw [e1, e2]
  have e3 : (BitVec.ofInt IntKind.u64.bits ((m * 256 : Nat) : Int) ||| BitVec.ofInt IntKind.u64.bits (x.toNat : Int)).toNat = m * 256 + x.toNat := by
    rw [BitVec.toNat_or, BitVec.toNat_ofInt, BitVec.toNat_ofInt]
    have h64 : ((2 ^ IntKind.u64.bits : Nat) : Int) = 18446744073709551616 := by decide
    rw [h64, Int.emod_eq_of_lt (by omega) (by omega), Int.emod_eq_of_lt (by omega) (by omega), Int.toNat_natCast, Int.toNat_natCast]
    have := Nat.shiftLeft_add_eq_or_of_lt (b := x.toNat) (i := 8) (by omega) m
    rw [Nat.shiftLeft_eq] at this
    exact this.symm
  rw [e3, wrap_u64 (by omega) (by omega)]; omega

theorem fixB (n k : Nat) (hk : k ≤ 32) : (b8 (IntKind.wrap .u8 (shrK .u64 (n : Int) k))).toNat = n / 2 ^ k % 256 := by
  unfold shrK b8
  have e1 : (n : Int).fdiv (2 ^ min k IntKind.u64.bits) = ((n / 2 ^ k : Nat) : Int) := by
    have : min k IntKind.u64.bits = k := by
      have : IntKind.u64.bits = 64 := rfl
      omega
    rw [this, Int.fdiv_eq_ediv_of_nonneg _ (Int.pow_nonneg (by omega))]
    simp
  rw [e1, IntKind.wrap_u8]
  generalize n / 2 ^ k = m
  simp
  omega

theorem unfix_fix4 (n : Nat) (h : n < 4294967296) : unfix (fix4 n) = n := by
  have e : fix4 (n : Int) = [b8 (IntKind.wrap .u8 (shrK .u64 (n : Int) 24)), b8 (IntKind.wrap .u8 (shrK .u64 (n : Int) 16)), b8 (IntKind.wrap .u8 (shrK .u64 (n : Int) 8)), b8 (IntKind.wrap .u8 (shrK .u64 (n : Int) 0))] := rfl
  rw [e]
  have h3 := fixB n 24 (by omega)
  have h2 := fixB n 16 (by omega)
  have h1 := fixB n 8 (by omega)
  have h0 := fixB n 0 (by omega)
  generalize b8 (IntKind.wrap .u8 (shrK .u64 (n : Int) 24)) = a3 at *
  generalize b8 (IntKind.wrap .u8 (shrK .u64 (n : Int) 16)) = a2 at *
  generalize b8 (IntKind.wrap .u8 (shrK .u64 (n : Int) 8)) = a1 at *
  generalize b8 (IntKind.wrap .u8 (shrK .u64 (n : Int) 0)) = a0 at *
  have l3 := a3.toNat_lt
  have l2 := a2.toNat_lt
  have l1 := a1.toNat_lt
  have l0 := a0.toNat_lt
  simp only [unfix, List.foldl_cons, List.foldl_nil]
  have s3 : unfixStep 0 a3 = (a3.toNat : Int) := by rw [unfixStep_eq (by omega) (by omega)]; omega
  rw [s3]
  have s2 : unfixStep (a3.toNat : Int) a2 = ((a3.toNat * 256 + a2.toNat : Nat) : Int) := by rw [unfixStep_eq (by omega) (by omega)]; omega
  rw [s2]
  have s1 : unfixStep ((a3.toNat * 256 + a2.toNat : Nat) : Int) a1 = (((a3.toNat * 256 + a2.toNat) * 256 + a1.toNat : Nat) : Int) := by rw [unfixStep_eq (by omega) (by omega)]; omega
  rw [s1, unfixStep_eq (by omega) (by omega)]
  rw [h3, h2, h1, h0]
  simp only [Nat.reducePow] 
  omega

theorem fix4_len (n : Int) : (fix4 n).length = 4 := fixI_len _ _ _

theorem parse1_frame (x rest : List UInt8) (hx : x.length ≤ 4096) : parse1 (frameL x ++ rest) = some (x, x.length + 8) := by
  have hf : frameL x = fix4 x.length ++ x ++ (List.range 4).map (tailB (crcSum (fix4 x.length ++ x))) := rfl
  have h4 := fix4_len (x.length : Int)
  have ht : ((List.range 4).map (tailB (crcSum (fix4 x.length ++ x)))).length = 4 := by simp
  generalize hw : (List.range 4).map (tailB (crcSum (fix4 x.length ++ x))) = tl at hf ht
  have hb : frameL x ++ rest = fix4 x.length ++ (x ++ (tl ++ rest)) := by rw [hf]; simp
  have hu := unfix_fix4 x.length (by omega)
  have e4 : (frameL x ++ rest).take 4 = fix4 x.length := by rw [hb, List.take_append_of_le_length (by omega), List.take_of_length_le (by omega)]
  have hlen : (frameL x ++ rest).length = x.length + 8 + rest.length := by rw [hb]; simp only [List.length_append, h4, ht]; omega
  have hs : spanL (frameL x ++ rest) = (4 + (x.length : Int), 0) := by
    unfold spanL
    rw [e4, hu, if_neg (by omega), if_neg (by omega), if_neg (by omega)]
  have eE : (frameL x ++ rest).take (4 + x.length) = fix4 x.length ++ x := by
    rw [hb, ← List.append_assoc, List.take_append_of_le_length (by simp [h4]), List.take_of_length_le (by simp [h4])]
  have eE4 : (frameL x ++ rest).take (4 + x.length + 4) = frameL x := by
    have : (frameL x).length = 4 + x.length + 4 := by rw [hf]; simp only [List.length_append, h4, ht]
    rw [List.take_append_of_le_length (by omega), List.take_of_length_le (by omega)]
  have eN : (4 + (x.length : Int)).toNat = 4 + x.length := by omega
  unfold parse1
  rw [hs]
  dsimp only
  rw [eN, eE, eE4]
  rw [if_pos ⟨rfl, rfl⟩]
  have ed : ((frameL x ++ rest).drop 4).take (4 + x.length - 4) = x := by
    rw [hb, List.drop_append, List.drop_eq_nil_of_le (by omega), List.nil_append, h4]
    simp
  rw [ed, show 4 + x.length + 4 = x.length + 8 by omega]

theorem parse1_part (x : List UInt8) (hx : x.length ≤ 4096) {j : Nat} (hj : j < x.length + 8) : parse1 ((frameL x).take j) = none := by
  have h4 := fix4_len (x.length : Int)
  have hfl := frameL_length x
  have hl : ((frameL x).take j).length = j := by rw [List.length_take, hfl]; omega
  have hs : (spanL ((frameL x).take j)).2 ≠ 0 := by
    unfold spanL
    by_cases hj4 : j < 4
    · rw [if_pos (by omega)]; decide
    · have e4 : ((frameL x).take j).take 4 = fix4 x.length := by
        rw [List.take_take, Nat.min_eq_left (by omega)]
        have : frameL x = fix4 x.length ++ (x ++ (List.range 4).map (tailB (crcSum (fix4 x.length ++ x)))) := by
          show (fix4 x.length ++ x) ++ _ = _
          rw [List.append_assoc]
        rw [this, List.take_append_of_le_length (by omega), List.take_of_length_le (by omega)]
      have hu := unfix_fix4 x.length (by omega)
      rw [if_neg (by omega), e4, hu, if_neg (by omega), if_pos (by rw [hl]; omega)]; decide
  unfold parse1
  rw [if_neg (fun h => hs h.1)]

def framesL (l : List (List UInt8)) : List UInt8 := l.flatMap frameL
theorem framesL_snoc (l : List (List UInt8)) (x : List UInt8) : framesL (l ++ [x]) = framesL l ++ frameL x := by simp [framesL]

theorem allL_frames : ∀ (l : List (List UInt8)) (t : List UInt8), (∀ x ∈ l, x.length ≤ 4096) → allL (framesL l ++ t) = (l ++ (allL t).1, (framesL l).length + (allL t).2)
  | [], t, _ => by simp [framesL]
  | x :: l, t, h => by
    have ih := allL_frames l t fun y hy => h y (List.mem_cons_of_mem _ hy)
    have e : framesL (x :: l) ++ t = frameL x ++ (framesL l ++ t) := by simp [framesL]
    have hp := parse1_frame x (framesL l ++ t) (h x List.mem_cons_self)
    rw [e, allL_some hp]
    have ed : (frameL x ++ (framesL l ++ t)).drop (x.length + 8) = framesL l ++ t := by
      rw [List.drop_append, frameL_length, Nat.sub_self, List.drop_zero, List.drop_eq_nil_of_le (by rw [frameL_length]; omega), List.nil_append]
    rw [ed, ih]
    have hl : (framesL (x :: l)).length = x.length + 8 + (framesL l).length := by simp [framesL, frameL_length]
    rw [hl]
    simp only [List.cons_append, Prod.mk.injEq, true_and]
    omega

theorem allL_nil : allL [] = ([], 0) := rfl

/-- The journal behind a crash: all of what was noted, and a part of what was to be. -/
theorem allL_part (l : List (List UInt8)) (x : List UInt8) (hl : ∀ y ∈ l, y.length ≤ 4096) (hx : x.length ≤ 4096) {j : Nat} (hj : j < x.length + 8) :
    allL (framesL l ++ (frameL x).take j) = (l, (framesL l).length) := by
  rw [allL_frames l _ hl, allL_none (parse1_part x hx hj)]; simp
theorem allL_full (l : List (List UInt8)) (hl : ∀ y ∈ l, y.length ≤ 4096) : allL (framesL l) = (l, (framesL l).length) := by
  have := allL_frames l [] hl
  rw [List.append_nil, allL_nil] at this
  simpa using this

end Go.Cr.Try

