/-
JournalKeeps: what was noted with OK is told, in order, whatever crashes come. For every input; no condition.
-/
import Derived.Test.YtepgodnmdcbgeaaB0
import Derived.Test.YtepgodnmdcbgeaaRows
import Derived.JoinedTies

namespace Go.Cr.Try
open Go Go.Cr Go.Proofs

/-! ### What is done to a disk that is up -/

theorem nget_nput (k k' : ByteArray) (f : Nat) : ∀ l : Nm, nget k' (nput k f l) = if k' = k then some f else nget k' l
  | [] => by
    simp only [nput, nget]
  | p :: l => by
    simp only [nput]
    by_cases e : k = p.1
    · rw [if_pos e]
      simp only [nget]
      by_cases e2 : k' = k
      · rw [if_pos e2, if_pos e2]
      · rw [if_neg e2, if_neg e2, if_neg (fun e3 => e2 (e3.trans e.symm))]
    · rw [if_neg e]
      simp only [nget]
      by_cases e2 : k' = p.1
      · rw [if_pos e2, if_neg (fun e3 => e (e3.symm.trans e2)), if_pos e2]
      · rw [if_neg e2, nget_nput k k' f l, if_neg e2]
theorem nget_none {k : ByteArray} : ∀ {l : Nm}, (∀ p ∈ l, p.1 ≠ k) → nget k l = none
  | [], _ => rfl
  | p :: l, h => by
    simp only [nget]
    rw [if_neg (fun e => h p List.mem_cons_self e.symm), nget_none fun q hq => h q (List.mem_cons_of_mem _ hq)]
theorem nget_ndel_ne {k k' : ByteArray} (h : k' ≠ k) : ∀ l : Nm, nget k' (ndel k l) = nget k' l
  | [] => rfl
  | p :: l => by
    simp only [ndel]
    by_cases e : k = p.1
    · rw [if_pos e]
      simp only [nget]
      rw [if_neg (fun e2 => h (e2.trans e.symm))]
    · rw [if_neg e]
      simp only [nget, nget_ndel_ne h l]
theorem nget_ndel_eq {k : ByteArray} {l : Nm} (h : ndKeys l) : nget k (ndel k l) = none := nget_none (nd_ndel h).2
theorem nget_map (g : ByteArray → Nat) (k : ByteArray) : ∀ l : Nm, nget k (l.map fun p => (p.1, g p.1)) = (nget k l).map fun _ => g k
  | [] => rfl
  | p :: l => by
    simp only [List.map_cons, nget]
    by_cases e : k = p.1
    · rw [if_pos e, if_pos e, e]; rfl
    · rw [if_neg e, if_neg e, nget_map g k l]
/-- A change that gives a name. -/
theorem nget_doN {l : Nm} {gone new : ByteArray} {f : Nat} (hn : new ≠ noName) (k : ByteArray) : nget k (doN l ⟨gone, new, some f⟩) = if k = new then some f else nget k (ndel gone l) := by
  unfold doN
  rw [if_neg hn]
  exact nget_nput new k f _

theorem setf_bytes (D : Dk) (f : Nat) (c : List UInt8) (k : Int) : (D.setf f c k).bytes f = c := by simp [Dk.setf, Dk.bytes]
theorem setf_kp (D : Dk) (f : Nat) (c : List UInt8) (k : Int) : (D.setf f c k).kp f = k := by simp [Dk.setf, Dk.kp]
theorem changed_bytes (D : Dk) (c : Chn) (f : Nat) : (D.changed c).bytes f = D.bytes f := rfl
theorem changed_kp (D : Dk) (c : Chn) (f : Nat) : (D.changed c).kp f = D.kp f := rfl
theorem rdy_bytes (D : Dk) (f : Nat) : D.rdy.1.bytes f = D.bytes f := by simp only [Dk.bytes, Dk.rdy_fl]
theorem rdy_kp (D : Dk) (f : Nat) : D.rdy.1.kp f = D.kp f := by simp only [Dk.kp, Dk.rdy_fl]

structure Up (D : Dk) : Prop where
  down : D.down = false
  doomed : D.doomed = false
theorem Up.rdy {D : Dk} (h : Up D) : D.rdy = (D, 0) := by
  obtain ⟨now, kept, chg, room, down, doomed, left, fl⟩ := D
  obtain ⟨h1, h2⟩ := h
  dsimp only at h1 h2
  subst h1 h2; rfl

/-- What can go wrong is that there is no way (40) but where the disk is doomed. -/
theorem rdy_err (D : Dk) : D.rdy.2 = 0 ∨ D.rdy.2 = 40 := by
  obtain ⟨now, kept, chg, room, down, doomed, left, fl⟩ := D
  cases down <;> cases doomed <;> simp only [Dk.rdy]
  · simp
  · split <;> simp
  · simp
  · simp

theorem rightP_ne {s : ByteArray} (h : rightP s = true) : s ≠ tmpN ∧ s ≠ noName ∧ rightN s = true := by
  unfold rightP at h
  simp only [Bool.and_eq_true, decide_eq_true_eq] at h
  obtain ⟨h1, h2, h3⟩ := h
  refine ⟨h1, h2, ?_⟩
  unfold rightN
  have : 1 ≤ s.size := by
    rcases Nat.eq_zero_or_pos s.size with h0 | h0
    · exact absurd (show s = noName by
        obtain ⟨a⟩ := s
        have : a = #[] := Array.eq_empty_of_size_eq_zero h0
        rw [this]; rfl) h2
    · exact h0
  simp [this, h3]
theorem right_tmp : rightN tmpN = true := by decide
theorem tmp_ne : tmpN ≠ noName := by decide

/-- Parts put to a file: there is no room; or all are there. -/
theorem fillL_up : ∀ {xs : List (List UInt8)} {D : Dk} {f : Nat}, Up D → nget tmpN D.now = some f →
    (D.fillL xs).2 = 41 ∨ ((D.fillL xs).2 = 0 ∧ Up (D.fillL xs).1 ∧ (D.fillL xs).1.now = D.now ∧ (D.fillL xs).1.bytes f = D.bytes f ++ xs.flatten)
  | [], D, f, hu, _ => .inr ⟨rfl, hu, rfl, by simp [Dk.fillL]⟩
  | x :: xs, D, f, hu, hf => by
    have ha : D.append tmpN x = (D, 41) ∨ D.append tmpN x = (D.setf f (D.bytes f ++ x) (D.kp f), 0) := by
      unfold Dk.append
      rw [hu.rdy, if_neg (by simp), hf]
      dsimp only
      split
      · exact .inl rfl
      · exact .inr rfl
    simp only [Dk.fillL]
    rcases ha with ha | ha
    · rw [ha]; exact .inl rfl
    · rw [ha, if_neg (by simp)]
      have hu1 : Up (D.setf f (D.bytes f ++ x) (D.kp f)) := ⟨hu.down, hu.doomed⟩
      rcases fillL_up (xs := xs) (D := D.setf f (D.bytes f ++ x) (D.kp f)) (f := f) hu1 hf with h | ⟨h1, h2, h3, h4⟩
      · exact .inl h
      · refine .inr ⟨h1, h2, h3, ?_⟩
        rw [h4, setf_bytes]; simp

/-- A file put in its place, on a disk that is up: there is no room; or it is there, for good. -/
theorem put_up {name : ByteArray} {b : List UInt8} {D : Dk} {r : Dk × Int} (hp : rightP name = true) (hu : Up D) (hnd : ndKeys D.now) (hr : putR name b D r) :
    r.2 = 41 ∨ (r.2 = 0 ∧ Up r.1 ∧ r.1.chg = [] ∧ r.1.kept = r.1.now ∧ ∃ f, nget name r.1.now = some f ∧ r.1.bytes f = b ∧ r.1.kp f = b.length) := by
  obtain ⟨hpt, hpn, hpr⟩ := rightP_ne hp
  have hrem : ∃ D0 e, D.remove tmpN = (D0, e) ∧ (e = 0 ∨ e = 2) ∧ Up D0 ∧ nget tmpN D0.now = none := by
    unfold Dk.remove
    rw [hu.rdy, if_neg (by simp)]
    cases h : nget tmpN D.now with
    | none => exact ⟨_, _, rfl, .inr rfl, hu, h⟩
    | some f =>
      refine ⟨_, _, rfl, .inl rfl, ⟨hu.down, hu.doomed⟩, ?_⟩
      show nget tmpN (doN D.now ⟨tmpN, noName, none⟩) = none
      unfold doN
      rw [if_pos rfl]
      exact nget_ndel_eq hnd
  obtain ⟨D0, e0, he0, he1, hu0, ht0⟩ := hrem
  rcases hr with ⟨h, _⟩ | ⟨_, hr⟩
  · rw [hp] at h; cases h
  rw [he0] at hr
  dsimp only at hr
  rcases hr with ⟨h1, h2, _⟩ | ⟨_, hr⟩
  · rcases he1 with rfl | rfl
    · exact absurd rfl h1
    · exact absurd rfl h2
  obtain ⟨r1, h1, hr⟩ := hr
  have hE : D0.createE tmpN = 0 := by
    unfold Dk.createE
    rw [hu0.rdy, if_neg (by simp), right_tmp, if_neg (by simp), ht0, if_neg (by simp)]
  rcases h1 with ⟨h1, _⟩ | ⟨_, nf, hnf, rfl⟩
  · exact absurd hE h1
  have hu1 : Up (D0.created tmpN nf) := by
    unfold Dk.created; rw [hu0.rdy]; exact ⟨hu0.down, hu0.doomed⟩
  have ht1 : nget tmpN (D0.created tmpN nf).now = some nf := by
    unfold Dk.created; rw [hu0.rdy]
    show nget tmpN (doN D0.now ⟨noName, tmpN, some nf⟩) = some nf
    rw [nget_doN tmp_ne, if_pos rfl]
  have hb1 : (D0.created tmpN nf).bytes nf = [] := by
    unfold Dk.created; rw [changed_bytes, setf_bytes]
  dsimp only at hr
  rcases hr with ⟨h, _⟩ | ⟨_, hr⟩
  · exact absurd rfl h
  generalize D0.created tmpN nf = D1 at hr hu1 ht1 hb1
  obtain ⟨r2, h2, hr⟩ := hr
  have hfill := fillL_up (xs := chunks b) hu1 ht1
  rw [hb1, chunks_flat, List.nil_append] at hfill
  have h2' : r2 = D1.fillL (chunks b) := h2
  rw [← h2'] at hfill
  clear h2 h2'
  obtain ⟨D2, e2⟩ := r2
  dsimp only at hr hfill
  rcases hfill with rfl | ⟨rfl, hu2, hn2, hb2⟩
  · rcases hr with ⟨_, rfl⟩ | ⟨h, _⟩
    · exact .inl rfl
    · cases h
  rcases hr with ⟨h, _⟩ | ⟨_, hr⟩
  · exact absurd rfl h
  obtain ⟨r3, h3, hr⟩ := hr
  have ht2 : nget tmpN D2.now = some nf := by rw [hn2]; exact ht1
  have h3' : r3 = (D2.setf nf b b.length, 0) := by
    refine Eq.trans h3 ?_
    show D2.sync tmpN = _
    unfold Dk.sync
    rw [hu2.rdy, if_neg (by simp), ht2]
    dsimp only
    rw [hb2]
  subst h3'
  rcases hr with ⟨h, _⟩ | ⟨_, hr⟩
  · exact absurd rfl h
  obtain ⟨r4, h4, hr⟩ := hr
  have hu3 : Up (D2.setf nf b b.length) := ⟨hu2.down, hu2.doomed⟩
  have h4' : r4 = ((D2.setf nf b b.length).changed ⟨tmpN, name, some nf⟩, 0) := by
    refine Eq.trans h4 ?_
    show (D2.setf nf b b.length).rename tmpN name = _
    unfold Dk.rename
    rw [hu3.rdy, if_neg (by simp), show nget tmpN (D2.setf nf b b.length).now = some nf from ht2]
    dsimp only
    rw [hpr, if_neg (by simp)]
  subst h4'
  rcases hr with ⟨h, _⟩ | ⟨_, hr⟩
  · exact absurd rfl h
  have hu4 : Up ((D2.setf nf b b.length).changed ⟨tmpN, name, some nf⟩) := ⟨hu2.down, hu2.doomed⟩
  have h5 : r = ({ ((D2.setf nf b b.length).changed ⟨tmpN, name, some nf⟩) with kept := ((D2.setf nf b b.length).changed ⟨tmpN, name, some nf⟩).now, chg := [] }, 0) := by
    refine Eq.trans hr ?_
    show ((D2.setf nf b b.length).changed ⟨tmpN, name, some nf⟩).syncNames = _
    unfold Dk.syncNames
    rw [hu4.rdy, if_neg (by simp)]
  subst h5
  refine .inr ⟨rfl, ⟨hu2.down, hu2.doomed⟩, rfl, rfl, nf, ?_, setf_bytes D2 nf b b.length, setf_kp D2 nf b b.length⟩
  show nget name (doN D2.now ⟨tmpN, name, some nf⟩) = some nf
  rw [nget_doN hpn, if_pos rfl]

end Go.Cr.Try

namespace Go.Cr.Try
open Go Go.Cr Go.Proofs

/-! ### The journal, plain: what was noted is kept -/

theorem journal_right : rightP journalN = true := by decide
theorem journal_ne : journalN ≠ noName := by decide

/-- The journal's bytes, all for good. -/
def JAt (D : Dk) (c : List UInt8) : Prop := ∃ f, nget journalN D.now = some f ∧ D.bytes f = c ∧ D.kp f = c.length
structure JInv (D : Dk) (ins : List (List UInt8)) : Prop where
  up : Up D
  chg : D.chg = []
  kn : D.kept = D.now
  len : ∀ y ∈ ins, y.length ≤ 4096
  j : (nget journalN D.now = none ∧ ins = []) ∨ JAt D (framesL ins)

/-- Behind noting x: the journal has what it had, and perhaps x behind; or there is none yet. -/
def Noted (D : Dk) (ins : List (List UInt8)) (x : List UInt8) (full : Prop) : Prop :=
  (D.chg = [] ∧ ∃ f, nget journalN D.kept = some f ∧ ∃ s, (s = [] ∨ s = frameL x) ∧ D.bytes f = framesL ins ++ s ∧ ((framesL ins).length : Int) ≤ D.kp f ∧ D.kp f ≤ (D.bytes f).length ∧ (full → s = frameL x ∧ D.kp f = (D.bytes f).length)) ∨
  (ins = [] ∧ ¬ full ∧ nget journalN D.kept = none ∧ (D.chg = [] ∨ ∃ nf, D.chg = [⟨noName, journalN, some nf⟩] ∧ D.bytes nf = [] ∧ D.kp nf = 0))

theorem Noted.rdy {D : Dk} {ins : List (List UInt8)} {x : List UInt8} {full : Prop} (h : Noted D ins x full) : Noted D.rdy.1 ins x full := by
  unfold Noted at h ⊢
  simp only [rdy_bytes, rdy_kp, Dk.rdy_kept, Dk.rdy_chg]
  exact h

theorem nget_same {D : Dk} {f g : Nat} {c : List UInt8} {k : Int} (h : g ≠ f) : (D.setf f c k).bytes g = D.bytes g ∧ (D.setf f c k).kp g = D.kp g := by
  simp [Dk.setf, Dk.bytes, Dk.kp, h]

theorem add_noted {D : Dk} {ins : List (List UInt8)} {x : List UInt8} {k : Int} {r : Dk × Int} (h : JInv D ins) (hx : x.length ≤ 4096) (hr : addR x (D.doom k) r) : Noted r.1 ins x (r.2 = 0) := by
  rcases hr with ⟨h1, _⟩ | ⟨_, hr⟩
  · omega
  rcases hr with ⟨h1, _⟩ | ⟨_, hr⟩
  · rw [journal_right] at h1; cases h1
  obtain ⟨r1, ⟨r0, h0, hm⟩, hr⟩ := hr
  -- what there is at first
  have base : ∀ full : Prop, ¬ full → Noted (D.doom k) ins x full := fun full hf => by
    rcases h.j with ⟨h1, h2⟩ | ⟨f, h1, h2, h3⟩
    · exact .inr ⟨h2, hf, by show nget journalN D.kept = none; rw [h.kn]; exact h1, .inl h.chg⟩
    · refine .inl ⟨h.chg, f, by show nget journalN D.kept = some f; rw [h.kn]; exact h1, [], .inl rfl, by rw [List.append_nil]; exact h2, ?_, ?_, fun e => absurd e hf⟩
      · show _ ≤ D.kp f; rw [h3]; exact Int.le_refl _
      · show D.kp f ≤ (D.bytes f).length; rw [h3, h2]; exact Int.le_refl _
  -- behind making it
  have made : (r1.2 ≠ 0 ∧ Noted r1.1 ins x False) ∨ (r1.2 = 0 ∧ r1.1.chg = [] ∧ r1.1.kept = r1.1.now ∧ ∃ f, nget journalN r1.1.now = some f ∧ r1.1.bytes f = framesL ins ∧ r1.1.kp f = (framesL ins).length) := by
    rcases h0 with ⟨hE, rfl⟩ | ⟨hE, nf, hnf, rfl⟩
    · rcases hm with ⟨he, _⟩ | ⟨he, rfl⟩ | ⟨he, he4, rfl⟩
      · exact absurd he hE
      · dsimp only at he ⊢
        have hex : ∃ f, nget journalN D.now = some f := by
          unfold Dk.createE at he
          rcases rdy_err (D.doom k) with h2 | h2
          · rw [h2, if_neg (by simp), (rightP_ne journal_right).2.2, if_neg (by simp)] at he
            split at he
            · rename_i hn; exact Option.ne_none_iff_exists'.1 hn
            · cases he
          · rw [h2, if_pos (by decide)] at he; cases he
        obtain ⟨f, hf⟩ := hex
        rcases h.j with ⟨h1, _⟩ | ⟨f', h1, h2, h3⟩
        · rw [h1] at hf; cases hf
        · refine .inr ⟨rfl, by rw [Dk.rdy_chg]; exact h.chg, by rw [Dk.rdy_kept, Dk.rdy_now]; exact h.kn, f', by rw [Dk.rdy_now]; exact h1, by rw [rdy_bytes]; exact h2, by rw [rdy_kp]; exact h3⟩
      · exact .inl ⟨he, (base False id).rdy⟩
    · have hn : nget journalN D.now = none := by
        unfold Dk.createE at hE
        rcases rdy_err (D.doom k) with h2 | h2
        · rw [h2, if_neg (by simp), (rightP_ne journal_right).2.2, if_neg (by simp)] at hE
          split at hE
          · cases hE
          · rename_i hn
            cases hx : nget journalN D.now with
            | none => rfl
            | some f => exact absurd (by show nget journalN D.now ≠ none; rw [hx]; simp) hn
        · rw [h2, if_pos (by decide)] at hE; cases hE
      have hi : ins = [] := by
        rcases h.j with ⟨_, h2⟩ | ⟨f, h1, _⟩
        · exact h2
        · rw [hn] at h1; cases h1
      rcases hm with ⟨_, rfl⟩ | ⟨he, _⟩ | ⟨he, _, _⟩
      · have hc : ((D.doom k).created journalN nf).bytes nf = [] := by unfold Dk.created; rw [changed_bytes, setf_bytes]
        have hc2 : ((D.doom k).created journalN nf).kp nf = 0 := by unfold Dk.created; rw [changed_kp, setf_kp]
        have hc3 : ((D.doom k).created journalN nf).kept = D.now := by
          unfold Dk.created; show (D.doom k).rdy.1.kept = _; rw [Dk.rdy_kept]; exact h.kn
        have hc4 : ((D.doom k).created journalN nf).chg = [⟨noName, journalN, some nf⟩] := by
          unfold Dk.created; show (D.doom k).rdy.1.chg ++ _ = _
          rw [Dk.rdy_chg]; show D.chg ++ _ = _; rw [h.chg]; rfl
        have hc5 : nget journalN ((D.doom k).created journalN nf).now = some nf := by
          unfold Dk.created
          show nget journalN (doN ((D.doom k).rdy.1.setf nf [] 0).now ⟨noName, journalN, some nf⟩) = _
          rw [nget_doN journal_ne, if_pos rfl]
        generalize (D.doom k).created journalN nf = D1 at *
        unfold Dk.syncNames
        dsimp only
        rcases rdy_err D1 with h2 | h2
        · rw [h2, if_neg (by simp)]
          refine .inr ⟨rfl, rfl, ?_, nf, ?_, ?_, ?_⟩
          · show D1.now = D1.rdy.1.now; rw [Dk.rdy_now]
          · show nget journalN D1.rdy.1.now = _; rw [Dk.rdy_now]; exact hc5
          · show D1.rdy.1.bytes nf = _; rw [rdy_bytes, hc, hi]; rfl
          · show D1.rdy.1.kp nf = _; rw [rdy_kp, hc2, hi]; rfl
        · rw [h2, if_pos (by decide)]
          refine .inl ⟨by rw [h2]; decide, .inr ⟨hi, id, ?_, .inr ⟨nf, ?_, ?_, ?_⟩⟩⟩
          · rw [Dk.rdy_kept, hc3]; exact hn
          · rw [Dk.rdy_chg]; exact hc4
          · rw [rdy_bytes]; exact hc
          · rw [rdy_kp]; exact hc2
      · cases he
      · exact absurd rfl he
  rcases hr with ⟨he, rfl⟩ | ⟨he, hr⟩
  · rcases made with ⟨_, hn⟩ | ⟨h2, _⟩
    · unfold Noted at hn ⊢
      rcases hn with ⟨g1, f, g2, s, g3, g4, g5, g6, _⟩ | ⟨g1, _, g2⟩
      · exact .inl ⟨g1, f, g2, s, g3, g4, g5, g6, fun e => absurd e he⟩
      · exact .inr ⟨g1, he, g2⟩
    · exact absurd h2 he
  rcases made with ⟨h2, _⟩ | ⟨_, hc, hk, f, hf, hb, hkp⟩
  · exact absurd he h2
  obtain ⟨r2, h2, hr⟩ := hr
  have h2' : r2 = r1.1.append journalN (frameL x) := h2
  generalize r1.1 = D1 at *
  clear h2 h0 hm
  have nt : ∀ {D' : Dk} {full : Prop}, ¬ full → D'.chg = [] → D'.kept = D1.kept → D'.bytes f = framesL ins → D'.kp f = (framesL ins).length → Noted D' ins x full := fun hfl g1 g2 g3 g4 =>
    .inl ⟨g1, f, by rw [g2, hk]; exact hf, [], .inl rfl, by rw [List.append_nil]; exact g3, by rw [g4]; exact Int.le_refl _, by rw [g4, g3]; exact Int.le_refl _, fun e => absurd e hfl⟩
  have ha : (r2.2 ≠ 0 ∧ r2.1 = D1.rdy.1) ∨ (r2.2 = 0 ∧ r2.1 = D1.rdy.1.setf f (framesL ins ++ frameL x) (framesL ins).length) := by
    rw [h2']
    unfold Dk.append
    rcases rdy_err D1 with g | g
    · rw [g, if_neg (by simp), hf]
      dsimp only
      split
      · exact .inl ⟨by simp, rfl⟩
      · rw [hb, hkp]; exact .inr ⟨rfl, rfl⟩
    · rw [if_pos (by rw [g]; decide)]; exact .inl ⟨by rw [g]; decide, rfl⟩
  rcases ha with ⟨ha, hD⟩ | ⟨ha, hD⟩
  · rcases hr with ⟨_, rfl⟩ | ⟨h3, _⟩
    · rw [hD]; exact nt ha (by rw [Dk.rdy_chg]; exact hc) (by rw [Dk.rdy_kept]) (by rw [rdy_bytes]; exact hb) (by rw [rdy_kp]; exact hkp)
    · exact absurd h3 ha
  rcases hr with ⟨h3, _⟩ | ⟨_, hr⟩
  · exact absurd ha h3
  have hr' : r = r2.1.sync journalN := hr
  have hb2 : r2.1.bytes f = framesL ins ++ frameL x := by rw [hD, setf_bytes]
  have hk2 : r2.1.kp f = (framesL ins).length := by rw [hD, setf_kp]
  have hc2 : r2.1.chg = [] := by rw [hD]; show D1.rdy.1.chg = []; rw [Dk.rdy_chg]; exact hc
  have hkk2 : r2.1.kept = D1.now := by rw [hD]; show D1.rdy.1.kept = _; rw [Dk.rdy_kept]; exact hk
  have hn2 : r2.1.now = D1.now := by rw [hD]; show D1.rdy.1.now = _; rw [Dk.rdy_now]
  generalize r2.1 = D2 at *
  rw [hr']
  unfold Dk.sync
  rcases rdy_err D2 with g | g
  · rw [g, if_neg (by simp), hn2, hf]
    dsimp only
    refine .inl ⟨?_, f, ?_, frameL x, .inr rfl, ?_, ?_, ?_, fun _ => ⟨rfl, ?_⟩⟩
    · show D2.rdy.1.chg = []; rw [Dk.rdy_chg]; exact hc2
    · show nget journalN D2.rdy.1.kept = _; rw [Dk.rdy_kept, hkk2]; exact hf
    · rw [setf_bytes, hb2]
    · rw [setf_kp, hb2, List.length_append]; omega
    · rw [setf_kp, setf_bytes]; exact Int.le_refl _
    · rw [setf_kp, setf_bytes]
  · rw [if_pos (by rw [g]; decide)]
    refine .inl ⟨?_, f, ?_, frameL x, .inr rfl, ?_, ?_, ?_, fun e => ?_⟩
    · rw [Dk.rdy_chg]; exact hc2
    · rw [Dk.rdy_kept, hkk2]; exact hf
    · rw [rdy_bytes, hb2]
    · rw [rdy_kp, hk2]; exact Int.le_refl _
    · rw [rdy_kp, rdy_bytes, hk2, hb2, List.length_append]; omega
    · rw [g] at e; cases e

end Go.Cr.Try

namespace Go.Cr.Try
open Go Go.Cr Go.Proofs

/-- Behind a crash. -/
structure Fallen (D : Dk) (ins : List (List UInt8)) (x : List UInt8) (full : Prop) : Prop where
  up : Up D
  chg : D.chg = []
  kn : D.kept = D.now
  j : (nget journalN D.now = none ∧ ins = [] ∧ ¬ full) ∨ ∃ j, j ≤ x.length + 8 ∧ JAt D (framesL ins ++ (frameL x).take j) ∧ (full → j = x.length + 8)

/-- What a file has behind a crash. -/
theorem crash_file {D : Dk} {w : Wrk} {g : ByteArray → Nat} {s : ByteArray} {f : Nat} (hg : ∀ p ∈ D.crashAt w, ∀ q ∈ D.crashAt w, g p.1 = g q.1 → p = q) (hs : nget s (D.crashAt w) = some f) :
    nget s (D.crash w g).now = some (g s) ∧ (D.crash w g).bytes (g s) = (D.bytes f).take (D.cutN w s f).toNat ∧ (D.crash w g).kp (g s) = D.cutN w s f := by
  have hm := nget_mem2 hs
  have hfl : (D.crash w g).fl (g s) = some ((D.bytes f).take (D.cutN w s f).toNat, D.cutN w s f) := by
    show Option.map _ ((D.crashAt w).find? fun p => g p.1 == g s) = _
    cases hx : (D.crashAt w).find? fun p => g p.1 == g s with
    | none =>
      have := List.find?_eq_none.1 hx _ hm
      simp at this
    | some p =>
      have h1 := List.mem_of_find?_eq_some hx
      have h2 : g p.1 = g s := by have := List.find?_some hx; simpa using this
      have h3 := hg p h1 _ hm h2
      subst h3; rfl
  refine ⟨?_, by simp [Dk.bytes, hfl], by simp [Dk.kp, hfl]⟩
  show nget s ((D.crashAt w).map fun p => (p.1, g p.1)) = _
  rw [nget_map, hs]; rfl

theorem crash_noted {D : Dk} {ins : List (List UInt8)} {x : List UInt8} {full : Prop} {w : Wrk} {g : ByteArray → Nat} (h : Noted D ins x full) (hg : ∀ p ∈ D.crashAt w, ∀ q ∈ D.crashAt w, g p.1 = g q.1 → p = q) : Fallen (D.crash w g) ins x full := by
  refine ⟨⟨rfl, rfl⟩, rfl, rfl, ?_⟩
  have hfl := frameL_length x
  rcases h with ⟨hc, f, hf, s, hs, hb, hk1, hk2, hfull⟩ | ⟨hi, hnf, hn, hc⟩
  · have hat : D.crashAt w = D.kept := by unfold Dk.crashAt; rw [hc]; simp
    have hf' : nget journalN (D.crashAt w) = some f := by rw [hat]; exact hf
    obtain ⟨h1, h2, h3⟩ := crash_file hg hf'
    have hlb := w.left_le ((D.order w).idxOf journalN) (m := ((D.bytes f).length : Int) - D.kp f) (by omega)
    have hcut : D.cutN w journalN f = D.kp f + w.left ((D.order w).idxOf journalN) ((D.bytes f).length - D.kp f) := rfl
    have hlen : ((D.bytes f).length : Int) = (framesL ins).length + s.length := by rw [hb, List.length_append]; omega
    have hsl : s.length ≤ x.length + 8 := by rcases hs with rfl | rfl <;> simp [hfl]
    refine .inr ⟨min ((D.cutN w journalN f).toNat - (framesL ins).length) s.length, by omega, ⟨g journalN, h1, ?_, ?_⟩, fun hf => ?_⟩
    · rw [h2, hb, List.take_append, List.take_of_length_le (by omega)]
      congr 1
      rcases hs with rfl | rfl
      · simp
      · by_cases hle : (D.cutN w journalN f).toNat - (framesL ins).length ≤ (frameL x).length
        · rw [Nat.min_eq_left hle]
        · rw [List.take_of_length_le (by omega), List.take_of_length_le (by omega)]
    · rw [h3, List.length_append, List.length_take]
      rcases hs with rfl | rfl
      · simp only [List.length_nil] at hlen ⊢; omega
      · omega
    · obtain ⟨rfl, hkk⟩ := hfull hf
      omega
  · rcases hc with hc | ⟨nf, hc, hb, hk⟩
    · have hat : D.crashAt w = D.kept := by unfold Dk.crashAt; rw [hc]; simp
      refine .inl ⟨?_, hi, hnf⟩
      show nget journalN ((D.crashAt w).map fun p => (p.1, g p.1)) = none
      rw [nget_map, hat, hn]; rfl
    · have hat : D.crashAt w = D.kept ∨ nget journalN (D.crashAt w) = some nf := by
        unfold Dk.crashAt
        rw [hc]
        cases D.crashN w with
        | zero => exact .inl rfl
        | succ n =>
          right
          simp only [List.take_succ_cons, List.take_nil, List.foldl_cons, List.foldl_nil]
          rw [nget_doN journal_ne, if_pos rfl]
      rcases hat with hat | hat
      · refine .inl ⟨?_, hi, hnf⟩
        show nget journalN ((D.crashAt w).map fun p => (p.1, g p.1)) = none
        rw [nget_map, hat, hn]; rfl
      · obtain ⟨h1, h2, h3⟩ := crash_file hg hat
        have hlb := w.left_le ((D.order w).idxOf journalN) (m := 0) (by omega)
        have hcut : D.cutN w journalN nf = 0 + w.left ((D.order w).idxOf journalN) 0 := by
          unfold Dk.cutN; rw [hk, hb]; rfl
        refine .inr ⟨0, by omega, ⟨g journalN, h1, ?_, ?_⟩, fun hf => absurd hf hnf⟩
        · rw [h2, hb, hi]; simp [framesL]
        · rw [h3, hi]; simp [framesL]; omega

/-- What opening the journal tells, behind that. -/
theorem open_fallen {D : Dk} {ins : List (List UInt8)} {x : List UInt8} {full : Prop} {l : List (List UInt8)} {e : Int} {D' : Dk} (h : Fallen D ins x full) (hnd : ndKeys D.now) (hlen : ∀ y ∈ ins, y.length ≤ 4096) (hx : x.length ≤ 4096) (ho : openR D l e D') :
    e = 41 ∨ (e = 0 ∧ ((l = ins ++ [x] ∧ JInv D' (ins ++ [x])) ∨ (l = ins ∧ ¬ full ∧ JInv D' ins))) := by
  have hrd := h.up.rdy
  have hlen2 : ∀ y ∈ ins ++ [x], y.length ≤ 4096 := fun y hy => by
    rcases List.mem_append.1 hy with hy | hy
    · exact hlen y hy
    · simp only [List.mem_singleton] at hy; subst hy; exact hx
  have hfl := frameL_length x
  rcases h.j with ⟨hn, hi, hf⟩ | ⟨j, hj, ⟨f, h1, h2, h3⟩, hfull⟩
  · have hr : D.read journalN = ([], 2) := by unfold Dk.read; rw [hrd, if_neg (by simp), hn]
    unfold openR at ho
    rw [hr, hrd] at ho
    rcases ho with ⟨_, rfl, rfl, rfl⟩ | ⟨_, h2, _⟩ | ⟨h2, _⟩
    · exact .inr ⟨rfl, .inr ⟨hi.symm, hf, h.up, h.chg, h.kn, hlen, .inl ⟨hn, hi⟩⟩⟩
    · exact absurd rfl h2
    · cases h2
  · have hr : D.read journalN = (framesL ins ++ (frameL x).take j, 0) := by unfold Dk.read; rw [hrd, if_neg (by simp), h1]; dsimp only; rw [h2]
    unfold openR at ho
    rw [hr, hrd] at ho
    dsimp only at ho
    rcases ho with ⟨h4, _⟩ | ⟨h4, _⟩ | ⟨_, ho⟩
    · cases h4
    · exact absurd rfl h4
    by_cases hjf : j = x.length + 8
    · have ht : (frameL x).take j = frameL x := List.take_of_length_le (by omega)
      rw [ht, ← framesL_snoc] at ho
      rw [allL_full _ hlen2] at ho
      dsimp only at ho
      rcases ho with ⟨_, rfl, rfl, rfl⟩ | ⟨h4, _⟩
      · refine .inr ⟨rfl, .inl ⟨rfl, h.up, h.chg, h.kn, hlen2, .inr ⟨f, h1, ?_, ?_⟩⟩⟩
        · rw [h2, ht, framesL_snoc]
        · rw [h3, ht, framesL_snoc]
      · exact absurd rfl h4
    · have hnf : ¬ full := fun hf => hjf (hfull hf)
      rw [allL_part ins x hlen hx (by omega)] at ho
      dsimp only at ho
      rcases ho with ⟨h4, rfl, rfl, rfl⟩ | ⟨_, r, hp, rfl, rfl, rfl⟩
      · have hj0 : (frameL x).take j = [] := List.eq_nil_of_length_eq_zero (by rw [List.length_append] at h4; omega)
        rw [hj0, List.append_nil] at h2 h3
        exact .inr ⟨rfl, .inr ⟨rfl, hnf, h.up, h.chg, h.kn, hlen, .inr ⟨f, h1, h2, h3⟩⟩⟩
      · have htk : (framesL ins ++ (frameL x).take j).take (framesL ins).length = framesL ins := by
          rw [List.take_append_of_le_length (Nat.le_refl _), List.take_of_length_le (Nat.le_refl _)]
        rw [htk] at hp
        rcases put_up journal_right h.up hnd hp with h41 | ⟨h0, hu, hc, hk, f', g1, g2, g3⟩
        · exact .inl h41
        · refine .inr ⟨h0, .inr ⟨by rw [if_pos h0], hnf, hu, hc, hk, hlen, .inr ⟨f', g1, g2, g3⟩⟩⟩

/-! ### How much there is -/

theorem wf_append_le {D : Dk} {n M : Nat} (h : D.Wf n M) (name : ByteArray) (b : List UInt8) (hb : ∀ f, nget name D.now = some f → (D.bytes f).length + b.length ≤ n) : (D.append name b).1.Wf n M := by
  unfold Dk.append
  split
  · exact h.rdy
  · split
    · exact h.rdy
    · rename_i f hf
      obtain ⟨c, k, h1, h2, h3, h4, h5, h6⟩ := h.nget hf
      have := hb f hf
      rw [h2] at this
      split
      · exact h.rdy
      · rw [h2, h3]
        exact h.rdy.setf f h4 (by rw [List.length_append]; omega) (by rw [List.length_append]; exact this)

theorem wf_fillL_le {n M : Nat} : ∀ {xs : List (List UInt8)} {D : Dk}, D.Wf n M → (∀ f, nget tmpN D.now = some f → (D.bytes f).length + xs.flatten.length ≤ n) → (D.fillL xs).1.Wf n M
  | [], D, h, _ => h
  | x :: xs, D, h, hb => by
    have hx : (x :: xs).flatten.length = x.length + xs.flatten.length := by simp
    have h1 := wf_append_le h tmpN x fun f hf => by have := hb f hf; omega
    simp only [Dk.fillL]
    split
    · exact h1
    · rename_i he
      refine wf_fillL_le h1 fun f hf => ?_
      revert hf he
      unfold Dk.append
      split
      · rename_i hne; intro he hf; exact absurd hne he
      · split
        · intro he hf; rw [Dk.rdy_now] at hf; rename_i hn; rw [hn] at hf; cases hf
        · rename_i f' hf'
          split
          · intro he hf; rw [Dk.rdy_now, hf'] at hf; injection hf with hf; subst hf
            rw [rdy_bytes]; have := hb _ hf'; omega
          · intro he hf
            have hf2 : nget tmpN D.rdy.1.now = some f := hf
            rw [Dk.rdy_now, hf'] at hf2; injection hf2 with hf2; subst hf2
            rw [setf_bytes, List.length_append]; have := hb _ hf'; omega

end Go.Cr.Try

namespace Go.Cr.Try
open Go Go.Cr Go.Proofs

theorem growR_wf {name : ByteArray} {b : List UInt8} {D : Dk} {r : Dk × Int} {n M : Nat} (h : D.Wf n M) (hr : growR name b D r) : r.1.Wf (n + b.length) (M + 1) := by
  rcases hr with ⟨_, rfl⟩ | ⟨_, r1, h1, hr⟩
  · exact h.mono (by omega) (by omega)
  have hw1 := h1.wf h
  rcases hr with ⟨_, rfl⟩ | ⟨_, r2, h2, hr⟩
  · exact hw1.mono (by omega) (Nat.le_refl _)
  have h2' : r2 = r1.1.append name b := h2
  subst h2'
  have hw2 := hw1.append name b
  rcases hr with ⟨_, rfl⟩ | ⟨_, hr⟩
  · exact hw2
  have hr' : r = Dk.sync _ name := hr
  subst hr'
  exact hw2.sync name
theorem addR_wf {x : List UInt8} {D : Dk} {r : Dk × Int} {n M : Nat} (h : D.Wf n M) (hr : addR x D r) : r.1.Wf (n + (x.length + 8)) (M + 1) := by
  rcases hr with ⟨_, rfl⟩ | ⟨_, hr⟩
  · exact h.mono (by omega) (by omega)
  · have := growR_wf h hr
    rw [frameL_length] at this; exact this

theorem putR_wf {name : ByteArray} {b : List UInt8} {D : Dk} {r : Dk × Int} {n M : Nat} (h : D.Wf n M) (hb : b.length ≤ n) (hr : putR name b D r) : r.1.Wf n (M + 3) := by
  rcases hr with ⟨_, rfl⟩ | ⟨_, hr⟩
  · exact h.mono (Nat.le_refl _) (by omega)
  have hw0 := h.remove tmpN
  rcases hr with ⟨_, _, rfl⟩ | ⟨_, r1, h1, hr⟩
  · exact hw0.mono (Nat.le_refl _) (by omega)
  have hw1 := h1.wf hw0
  rcases hr with ⟨_, rfl⟩ | ⟨he1, r2, h2, hr⟩
  · exact hw1.mono (Nat.le_refl _) (by omega)
  have hw2 : r2.1.Wf n (M + 1 + 1) := by
    have h2' : r2 = r1.1.fillL (chunks b) := h2
    rw [h2']
    refine wf_fillL_le hw1 fun f hf => ?_
    rw [chunks_flat]
    rcases h1 with ⟨hE, rfl⟩ | ⟨_, nf, _, rfl⟩
    · exact absurd he1 hE
    · have : nget tmpN (doN ((D.remove tmpN).1.rdy.1.setf nf [] 0).now ⟨noName, tmpN, some nf⟩) = some f := hf
      rw [nget_doN tmp_ne, if_pos rfl] at this
      injection this with this
      subst this
      show (((D.remove tmpN).1.rdy.1.setf nf [] 0).bytes nf).length + b.length ≤ n
      rw [setf_bytes]; simpa using hb
  rcases hr with ⟨_, rfl⟩ | ⟨_, r3, h3, hr⟩
  · exact hw2.mono (Nat.le_refl _) (by omega)
  have h3' : r3 = Dk.sync _ tmpN := h3
  subst h3'
  have hw3 := hw2.sync tmpN
  rcases hr with ⟨_, rfl⟩ | ⟨_, r4, h4, hr⟩
  · exact hw3.mono (Nat.le_refl _) (by omega)
  have h4' : r4 = Dk.rename _ tmpN name := h4
  subst h4'
  have hw4 := hw3.rename tmpN name
  rcases hr with ⟨_, rfl⟩ | ⟨_, hr⟩
  · exact hw4
  have hr' : r = Dk.syncNames _ := hr
  subst hr'
  exact hw4.syncNames

theorem openR_wf {D D' : Dk} {l : List (List UInt8)} {e : Int} {n M : Nat} (h : D.Wf n M) (hr : openR D l e D') : D'.Wf n (M + 3) := by
  have hl := h.read_le journalN
  rcases hr with ⟨_, _, _, rfl⟩ | ⟨_, _, _, _, rfl⟩ | ⟨_, ⟨_, _, _, rfl⟩ | ⟨_, r, hp, rfl, _, _⟩⟩
  · exact h.rdy.mono (Nat.le_refl _) (by omega)
  · exact h.rdy.mono (Nat.le_refl _) (by omega)
  · exact h.rdy.mono (Nat.le_refl _) (by omega)
  · exact putR_wf h.rdy (by rw [List.length_take]; omega) hp

/-- A new disk. -/
def Dk.new (room : Int) : Dk := ⟨[], [], [], if 0 > room then 0 else room, false, false, 0, fun _ => none⟩
theorem new_wf (room : Int) (h : room ≤ 9223372036854775807) : (Dk.new room).Wf 0 0 := by
  refine ⟨by show (0 : Int) ≤ 0; omega, by show (0 : Int) ≤ _; omega, ?_, ?_, by simp [Dk.new], by simp [Dk.new], by simp [Dk.new], by simp [Dk.new], by simp [Dk.new], by simp [Dk.new], List.nodup_nil, List.nodup_nil⟩
  · show 0 ≤ if 0 > room then 0 else room
    split <;> omega
  · show (if 0 > room then 0 else room) ≤ _
    split <;> omega
theorem new_jinv (room : Int) : JInv (Dk.new room) [] := ⟨⟨rfl, rfl⟩, rfl, rfl, by simp, .inl ⟨rfl, rfl⟩⟩

theorem new_d (room : Int) (σ : Store) (R : AV → Store → Prop) (hR : ∀ d σ' F, DiskAt σ' F d (Dk.new room) → (∀ b o, σ b = some o → σ' b = some o ∧ ¬ F b) → R (ptrA d) σ') : ACalls P 5 [i64 room] σ R := by
  refine new_v room σ R fun m1 m2 d h1 h2 h3 n12 n1d n2d => ?_
  refine hR d _ (fun x => x = d ∨ x = m1 ∨ x = m2) ⟨m1, m2, none, #[], 0, #[], 0, ?_⟩ fun b o hb => ?_
  · refine ⟨Store.get_set _ _ _, ?_, .empty _, ?_, .empty _, n12, rfl, ?_, .inl rfl, .inr (.inl rfl), .inr (.inr rfl), by simp, ?_, ?_⟩
    · rw [Store.get_set_ne _ n1d, Store.get_set_ne _ n12]; exact Store.get_set _ _ _
    · rw [Store.get_set_ne _ n2d]; exact Store.get_set _ _ _
    · intro f c k hf; cases hf
    · intro f hf; exact absurd rfl hf
    · rintro x (rfl | rfl | rfl)
      · rw [Store.get_set]; simp
      · rw [Store.get_set_ne _ n1d, Store.get_set_ne _ n12, Store.get_set]; simp
      · rw [Store.get_set_ne _ n2d, Store.get_set]; simp
  · have e1 : b ≠ m1 := Store.fresh_ne h1 hb
    have e2 : b ≠ m2 := Store.fresh_ne h2 hb
    have e3 : b ≠ d := Store.fresh_ne h3 hb
    refine ⟨by rw [Store.get_set_ne _ e3, Store.get_set_ne _ e2, Store.get_set_ne _ e1]; exact hb, fun hc => ?_⟩
    rcases hc with hc | hc | hc
    · exact e3 hc
    · exact e1 hc
    · exact e2 hc

end Go.Cr.Try

namespace Go.Cr.Try
open Go Go.Cr Go.Proofs

/-! ### The journal, where nothing goes wrong -/

structure Solo (D : Dk) (ins : List (List UInt8)) : Prop where
  inv : JInv D ins
  now : D.now = [] ∨ ∃ f, D.now = [(journalN, f)]

theorem crash_jinv {D : Dk} {ins : List (List UInt8)} {w : Wrk} {g : ByteArray → Nat} (h : JInv D ins) (hg : ∀ p ∈ D.crashAt w, ∀ q ∈ D.crashAt w, g p.1 = g q.1 → p = q) : JInv (D.crash w g) ins := by
  have hat : D.crashAt w = D.now := by unfold Dk.crashAt; rw [h.chg, h.kn]; simp
  refine ⟨⟨rfl, rfl⟩, rfl, rfl, h.len, ?_⟩
  rcases h.j with ⟨h1, h2⟩ | ⟨f, h1, h2, h3⟩
  · refine .inl ⟨?_, h2⟩
    show nget journalN ((D.crashAt w).map fun p => (p.1, g p.1)) = none
    rw [nget_map, hat, h1]; rfl
  · obtain ⟨g1, g2, g3⟩ := crash_file hg (by rw [hat]; exact h1)
    have hcut : D.cutN w journalN f = D.kp f + w.left ((D.order w).idxOf journalN) ((D.bytes f).length - D.kp f) := rfl
    have hlb := w.left_le ((D.order w).idxOf journalN) (m := 0) (by omega)
    rw [h3, h2, show ((framesL ins).length : Int) - ((framesL ins).length : Int) = 0 by omega] at hcut
    have hc : D.cutN w journalN f = (framesL ins).length := by rw [hcut]; omega
    refine .inr ⟨g journalN, g1, ?_, ?_⟩
    · rw [g2, h2, hc, Int.toNat_natCast, List.take_of_length_le (Nat.le_refl _)]
    · rw [g3, hc]

theorem open_jinv {D : Dk} {ins : List (List UInt8)} {l : List (List UInt8)} {e : Int} {D' : Dk} (h : JInv D ins) (ho : openR D l e D') : l = ins ∧ e = 0 ∧ D' = D := by
  have hrd := h.up.rdy
  rcases h.j with ⟨hn, hi⟩ | ⟨f, h1, h2, h3⟩
  · have hr : D.read journalN = ([], 2) := by unfold Dk.read; rw [hrd, if_neg (by simp), hn]
    unfold openR at ho
    rw [hr, hrd] at ho
    rcases ho with ⟨_, rfl, rfl, rfl⟩ | ⟨_, h2, _⟩ | ⟨h2, _⟩
    · exact ⟨hi.symm, rfl, rfl⟩
    · exact absurd rfl h2
    · cases h2
  · have hr : D.read journalN = (framesL ins, 0) := by unfold Dk.read; rw [hrd, if_neg (by simp), h1]; dsimp only; rw [h2]
    unfold openR at ho
    rw [hr, hrd] at ho
    dsimp only at ho
    rw [allL_full _ h.len] at ho
    rcases ho with ⟨h4, _⟩ | ⟨h4, _⟩ | ⟨_, ⟨_, rfl, rfl, rfl⟩ | ⟨h4, _⟩⟩
    · cases h4
    · exact absurd rfl h4
    · exact ⟨rfl, rfl, rfl⟩
    · exact absurd rfl h4

theorem solo_used {D : Dk} {f : Nat} (hk : D.kept = [(journalN, f)]) (hc : D.chg = []) : D.used = D.len f := by
  unfold Dk.used Dk.files
  rw [hk, hc]
  simp [setN, addN]
theorem len_bytes (D : Dk) (f : Nat) : D.len f = (D.bytes f).length := by
  unfold Dk.len Dk.bytes
  cases D.fl f with
  | none => rfl
  | some p => rfl

theorem made_solo {D : Dk} {ins : List (List UInt8)} {r1 : Dk × Int} (h : Solo D ins) (hm : madeR journalN D r1) :
    r1.2 = 0 ∧ Up r1.1 ∧ r1.1.chg = [] ∧ r1.1.kept = r1.1.now ∧ r1.1.room = D.room ∧ ∃ f, r1.1.now = [(journalN, f)] ∧ r1.1.bytes f = framesL ins ∧ r1.1.kp f = (framesL ins).length := by
  obtain ⟨r0, h0, hm⟩ := hm
  have hrd := h.inv.up.rdy
  have hright := (rightP_ne journal_right).2.2
  rcases h.inv.j with ⟨hn, hi⟩ | ⟨f, h1, h2, h3⟩
  · have hE : D.createE journalN = 0 := by
      unfold Dk.createE; rw [hrd, if_neg (by simp), hright, if_neg (by simp), hn, if_neg (by simp)]
    have hnow : D.now = [] := by
      rcases h.now with h | ⟨f, h⟩
      · exact h
      · rw [h] at hn; simp [nget] at hn
    rcases h0 with ⟨h0, _⟩ | ⟨_, nf, _, rfl⟩
    · exact absurd hE h0
    rcases hm with ⟨_, rfl⟩ | ⟨h0, _⟩ | ⟨h0, _⟩
    · have hu : Up (D.created journalN nf) := by unfold Dk.created; rw [hrd]; exact ⟨h.inv.up.down, h.inv.up.doomed⟩
      have hnw : (D.created journalN nf).now = [(journalN, nf)] := by
        unfold Dk.created; rw [hrd]
        show doN D.now ⟨noName, journalN, some nf⟩ = _
        rw [hnow]
        unfold doN
        rw [if_neg journal_ne]; rfl
      have hb : (D.created journalN nf).bytes nf = [] := by unfold Dk.created; rw [changed_bytes, setf_bytes]
      have hk : (D.created journalN nf).kp nf = 0 := by unfold Dk.created; rw [changed_kp, setf_kp]
      have hr : (D.created journalN nf).room = D.room := by unfold Dk.created; rw [hrd]; rfl
      dsimp only
      generalize D.created journalN nf = D1 at *
      unfold Dk.syncNames
      rw [hu.rdy, if_neg (by simp)]
      exact ⟨rfl, ⟨hu.down, hu.doomed⟩, rfl, rfl, hr, nf, hnw, by rw [hi]; exact hb, by rw [hi]; exact hk⟩
    · cases h0
    · exact absurd rfl h0
  · have hnow : D.now = [(journalN, f)] := by
      rcases h.now with h | ⟨f', h⟩
      · rw [h] at h1; cases h1
      · rw [h] at h1; simp [nget] at h1; rw [h, h1]
    have hE : D.createE journalN = 4 := by
      unfold Dk.createE; rw [hrd, if_neg (by simp), hright, if_neg (by simp), h1, if_pos (by simp)]
    rcases h0 with ⟨_, rfl⟩ | ⟨h0, _⟩
    · dsimp only at hm
      rw [hE] at hm
      rcases hm with ⟨h0, _⟩ | ⟨_, rfl⟩ | ⟨_, h0, _⟩
      · cases h0
      · rw [hrd]
        exact ⟨rfl, h.inv.up, h.inv.chg, h.inv.kn, rfl, f, hnow, h2, h3⟩
      · exact absurd rfl h0
    · rw [hE] at h0; cases h0

theorem add_solo {D : Dk} {ins : List (List UInt8)} {x : List UInt8} {r : Dk × Int} (h : Solo D ins) (hx : x.length ≤ 4096) (hroom : ((framesL ins).length : Int) + (x.length + 8 : Nat) ≤ D.room) (hr : addR x D r) :
    r.2 = 0 ∧ Solo r.1 (ins ++ [x]) ∧ r.1.room = D.room := by
  have hfl := frameL_length x
  rcases hr with ⟨h1, _⟩ | ⟨_, hr⟩
  · omega
  rcases hr with ⟨h1, _⟩ | ⟨_, hr⟩
  · rw [journal_right] at h1; cases h1
  obtain ⟨r1, hm, hr⟩ := hr
  obtain ⟨h0, hu, hc, hk, hro, f, hn, hb, hkp⟩ := made_solo h hm
  rcases hr with ⟨h1, _⟩ | ⟨_, r2, h2, hr⟩
  · exact absurd h0 h1
  have hnf : nget journalN r1.1.now = some f := by rw [hn]; simp [nget]
  have h2' : r2 = (r1.1.setf f (framesL ins ++ frameL x) (framesL ins).length, 0) := by
    refine Eq.trans h2 ?_
    show r1.1.append journalN (frameL x) = _
    unfold Dk.append
    rw [hu.rdy, if_neg (by simp), hnf]
    dsimp only
    rw [solo_used (by rw [hk]; exact hn) hc, len_bytes, hb, hkp, hro, if_neg (by rw [hfl]; omega)]
  subst h2'
  rcases hr with ⟨h1, _⟩ | ⟨_, hr⟩
  · exact absurd rfl h1
  have hu2 : Up (r1.1.setf f (framesL ins ++ frameL x) (framesL ins).length) := ⟨hu.down, hu.doomed⟩
  have h3 : r = ((r1.1.setf f (framesL ins ++ frameL x) (framesL ins).length).setf f (framesL ins ++ frameL x) (framesL ins ++ frameL x).length, 0) := by
    refine Eq.trans hr ?_
    show (r1.1.setf f (framesL ins ++ frameL x) (framesL ins).length).sync journalN = _
    unfold Dk.sync
    rw [hu2.rdy, if_neg (by simp), show nget journalN (r1.1.setf f (framesL ins ++ frameL x) (framesL ins).length).now = some f from hnf]
    dsimp only
    rw [setf_bytes]
  subst h3
  refine ⟨rfl, ⟨⟨⟨hu.down, hu.doomed⟩, hc, hk, ?_, .inr ⟨f, hnf, ?_, ?_⟩⟩, .inr ⟨f, hn⟩⟩, hro⟩
  · intro y hy
    rcases List.mem_append.1 hy with hy | hy
    · exact h.inv.len y hy
    · simp only [List.mem_singleton] at hy; subst hy; exact hx
  · rw [setf_bytes, framesL_snoc]
  · rw [setf_kp, framesL_snoc]

theorem new_solo (room : Int) : Solo (Dk.new room) [] := ⟨new_jinv room, .inl rfl⟩

theorem frz_byte {b : Nat} {c : UInt8} {σ : Store} (hb : σ b = none) : Frz (.arr b 0 1 1) (σ.set b (.row [u8 c])) (bys [c]) σ := Frz.bys (l := [c]) (Store.get_set _ _ _) ((SubS.refl σ).set hb _) hb rfl

end Go.Cr.Try

namespace Go.Cr.Try
open Go Go.Cr Go.Proofs

set_option maxRecDepth 10000 in
theorem shown_v (σ : Store) (R : AV → Store → Prop) (hR : ∀ σ', (∀ b o, σ b = some o → σ' b = some o) → R (.val (.bool true)) σ') : ACalls P 4 [] σ R := by
  refine AInv.seen (AInv.of_aw ok Try.func4 rfl (by decide) rfl ?_)
  (conv => whnf); repeat (first | refine AW.seqA ?_ | refine AW.blockA ?_ | (refine AW.regA ok ?_; conv => whnf) | (refine AW.condA ?_; conv => whnf) | (refine AW.exitA ?_; conv => whnf) | (refine AW.retA ?_; conv => whnf) | (refine AW.skipA ?_; conv => whnf))
  refine new_d 100 _ _ fun d σ1 F1 hD1 hk1 => ?_
  have hw1 := new_wf 100 (by omega)
  have hs1 := new_solo 100
  (conv => whnf); repeat (first | refine AW.seqA ?_ | refine AW.blockA ?_ | (refine AW.regA ok ?_; conv => whnf) | (refine AW.condA ?_; conv => whnf) | (refine AW.exitA ?_; conv => whnf) | (refine AW.retA ?_; conv => whnf) | (refine AW.skipA ?_; conv => whnf))
  intro t ht
  (conv => whnf); repeat (first | refine AW.seqA ?_ | refine AW.blockA ?_ | (refine AW.regA ok ?_; conv => whnf) | (refine AW.condA ?_; conv => whnf) | (refine AW.exitA ?_; conv => whnf) | (refine AW.retA ?_; conv => whnf) | (refine AW.skipA ?_; conv => whnf))
  refine ⟨_, Store.get_set _ _ _, [97], Nat.le_refl 1, rfl, ?_⟩
  (conv => whnf); repeat (first | refine AW.seqA ?_ | refine AW.blockA ?_ | (refine AW.regA ok ?_; conv => whnf) | (refine AW.condA ?_; conv => whnf) | (refine AW.exitA ?_; conv => whnf) | (refine AW.retA ?_; conv => whnf) | (refine AW.skipA ?_; conv => whnf))
  rw [Store.del_set _ _ _ ht]
  refine add_d hD1 hw1 [97] (by simp) (by simp) (by omega) _ fun r2 hr2 σ2 F2 hD2 hk2 => ?_
  obtain ⟨h20, hs2, hro2⟩ := add_solo hs1 (by simp) (by simp [framesL, Dk.new]) hr2
  have hw2 := addR_wf hw1 hr2
  rw [h20]
  (conv => whnf); repeat (first | refine AW.seqA ?_ | refine AW.blockA ?_ | (refine AW.regA ok ?_; conv => whnf) | (refine AW.condA ?_; conv => whnf) | (refine AW.exitA ?_; conv => whnf) | (refine AW.retA ?_; conv => whnf) | (refine AW.skipA ?_; conv => whnf))
  intro t2 ht2
  (conv => whnf); repeat (first | refine AW.seqA ?_ | refine AW.blockA ?_ | (refine AW.regA ok ?_; conv => whnf) | (refine AW.condA ?_; conv => whnf) | (refine AW.exitA ?_; conv => whnf) | (refine AW.retA ?_; conv => whnf) | (refine AW.skipA ?_; conv => whnf))
  refine ⟨_, Store.get_set _ _ _, [98], Nat.le_refl 1, rfl, ?_⟩
  (conv => whnf); repeat (first | refine AW.seqA ?_ | refine AW.blockA ?_ | (refine AW.regA ok ?_; conv => whnf) | (refine AW.condA ?_; conv => whnf) | (refine AW.exitA ?_; conv => whnf) | (refine AW.retA ?_; conv => whnf) | (refine AW.skipA ?_; conv => whnf))
  rw [Store.del_set _ _ _ ht2]
  refine add_d hD2 hw2 [98] (by simp) (by simp) (by omega) _ fun r3 hr3 σ3 F3 hD3 hk3 => ?_
  obtain ⟨h30, hs3, hro3⟩ := add_solo hs2 (by simp) (by rw [hro2]; simp [framesL, Dk.new, frameL_length]) hr3
  have hw3 := addR_wf hw2 hr3
  rw [h30]
  (conv => whnf); repeat (first | refine AW.seqA ?_ | refine AW.blockA ?_ | (refine AW.regA ok ?_; conv => whnf) | (refine AW.condA ?_; conv => whnf) | (refine AW.exitA ?_; conv => whnf) | (refine AW.retA ?_; conv => whnf) | (refine AW.skipA ?_; conv => whnf))
  refine AInv.args (args' := [ptrA d, Wrk.av ⟨0, []⟩]) (fun w va hv => hv.cons (fun v hv => hv) fun us hu => hu.cons (fun v hv => hv.agg_see fun vs hvs => hvs.cons (fun _ h => h) fun _ h => h.cons (fun _ h => h.nil_sl) fun _ h => h) fun _ h => h) ?_
  refine crash_d hD3 (hw3.ok (by simp) (by omega)) ⟨0, []⟩ (by simp) _ fun g hg1 hg2 σ4 F4 hD4 hk4 => ?_
  have hj4 := crash_jinv hs3.inv (w := ⟨0, []⟩) hg1
  have hw4 := hw3.crash ⟨0, []⟩ g
  (conv => whnf); repeat (first | refine AW.seqA ?_ | refine AW.blockA ?_ | (refine AW.regA ok ?_; conv => whnf) | (refine AW.condA ?_; conv => whnf) | (refine AW.exitA ?_; conv => whnf) | (refine AW.retA ?_; conv => whnf) | (refine AW.skipA ?_; conv => whnf))
  refine open_d hD4 hw4 (by simp) (by omega) _ fun l e D5 ho σ5 F5 hD5 hk5 => ?_
  obtain ⟨hl, he, _⟩ := open_jinv hj4 ho
  subst hl he
  (conv => whnf); repeat (first | refine AW.seqA ?_ | refine AW.blockA ?_ | (refine AW.regA ok ?_; conv => whnf) | (refine AW.condA ?_; conv => whnf) | (refine AW.exitA ?_; conv => whnf) | (refine AW.retA ?_; conv => whnf) | (refine AW.skipA ?_; conv => whnf))
  intro t3 ht3
  (conv => whnf); repeat (first | refine AW.seqA ?_ | refine AW.blockA ?_ | (refine AW.regA ok ?_; conv => whnf) | (refine AW.condA ?_; conv => whnf) | (refine AW.exitA ?_; conv => whnf) | (refine AW.retA ?_; conv => whnf) | (refine AW.skipA ?_; conv => whnf))
  refine ⟨_, Store.get_set _ _ _, [97], Nat.le_refl 1, rfl, ?_⟩
  (conv => whnf); repeat (first | refine AW.seqA ?_ | refine AW.blockA ?_ | (refine AW.regA ok ?_; conv => whnf) | (refine AW.condA ?_; conv => whnf) | (refine AW.exitA ?_; conv => whnf) | (refine AW.retA ?_; conv => whnf) | (refine AW.skipA ?_; conv => whnf))
  rw [Store.del_set _ _ _ ht3]
  intro t4 ht4
  (conv => whnf); repeat (first | refine AW.seqA ?_ | refine AW.blockA ?_ | (refine AW.regA ok ?_; conv => whnf) | (refine AW.condA ?_; conv => whnf) | (refine AW.exitA ?_; conv => whnf) | (refine AW.retA ?_; conv => whnf) | (refine AW.skipA ?_; conv => whnf))
  refine ⟨_, Store.get_set _ _ _, [98], Nat.le_refl 1, rfl, ?_⟩
  (conv => whnf); repeat (first | refine AW.seqA ?_ | refine AW.blockA ?_ | (refine AW.regA ok ?_; conv => whnf) | (refine AW.condA ?_; conv => whnf) | (refine AW.exitA ?_; conv => whnf) | (refine AW.retA ?_; conv => whnf) | (refine AW.skipA ?_; conv => whnf))
  rw [Store.del_set _ _ _ ht4]
  intro t5 ht5
  (conv => whnf); repeat (first | refine AW.seqA ?_ | refine AW.blockA ?_ | (refine AW.regA ok ?_; conv => whnf) | (refine AW.condA ?_; conv => whnf) | (refine AW.exitA ?_; conv => whnf) | (refine AW.retA ?_; conv => whnf) | (refine AW.skipA ?_; conv => whnf))
  have hsame := same_row [[97], [98]] [[97], [98]] (by simp) (b := t5) (σ := σ5.set t5 (.row [bys [97], bys [98]])) (Store.get_set _ _ _)
  refine hsame _ ?_
  (conv => whnf); repeat (first | refine AW.seqA ?_ | refine AW.blockA ?_ | (refine AW.regA ok ?_; conv => whnf) | (refine AW.condA ?_; conv => whnf) | (refine AW.exitA ?_; conv => whnf) | (refine AW.retA ?_; conv => whnf) | (refine AW.skipA ?_; conv => whnf))
  refine ⟨_, _, .drop ((SubS.refl σ5).set ht5 _), ?_⟩
  refine hR σ5 fun b o hb => ?_
  obtain ⟨k1, k2⟩ := hk1 b o hb
  obtain ⟨k3, k4⟩ := hk2 b o k1 k2
  obtain ⟨k5, k6⟩ := hk3 b o k3 k4
  obtain ⟨k7, k8⟩ := hk4 b o k5 k6
  exact (hk5 b o k7 k8).1

end Go.Cr.Try

namespace Go.Cr.Try
open Go Go.Cr Go.Proofs

/-- What was noted so far, as the law holds it: nil, or a row of one's own. -/
def inV (ob : Option Nat) (n : Nat) : AV := match ob with
  | none => .val (.slice none 0 0)
  | some b => .arr b 0 n 1

theorem share {P : Nat → Prop} {G : Prop} (σ : Store) (h1 : ∀ b, σ b = none → P b) (h2 : (∀ b, σ b = none → P b) → G) : G := h2 h1

theorem SubS.set2e {σ σ' : Store} (h : SubS σ σ') (b : Nat) {o o' : AObj} (e : o = o') : SubS (σ.set b o) (σ'.set b o') := by subst e; exact h.set2 b o

structure KeepI (σ : Store) (l : List ActL) (d : Nat) (i : Nat) (ins : List (List UInt8)) (ob : Option Nat) (D : Dk) (F : Nat → Prop) (τ : Store) : Prop where
  le : i ≤ (fewL l).length
  le2 : i ≤ 30
  inv : JInv D ins
  wf : D.Wf (108 * i) (4 * i)
  disk : DiskAt τ F d D
  nil : ob = none → ins = []
  row : ∀ b, ob = some b → τ b = some (.row (ins.map bys)) ∧ ¬ F b
  len : ins.length ≤ i

set_option maxRecDepth 10000 in
theorem keeps_v (room : Int) (l : List ActL) (hl : l.length ≤ 9223372036854775807) (hN : ∀ a ∈ l, a.n ≤ 9223372036854775807) (hroom : room ≤ 9223372036854775807) (σ : Store) (R : AV → Store → Prop) (hR : ∀ σ', R (.val (.bool true)) σ') : ACalls P 3 [i64 room, acts l] σ R := by
  refine AInv.seen (AInv.of_aw ok Try.func3 rfl (by decide) rfl ?_)
  (conv => whnf); repeat (first | refine AW.seqA ?_ | refine AW.blockA ?_ | (refine AW.regA ok ?_; conv => whnf) | (refine AW.condA ?_; conv => whnf) | (refine AW.exitA ?_; conv => whnf) | (refine AW.retA ?_; conv => whnf) | (refine AW.skipA ?_; conv => whnf))
  refine shown_v σ _ fun σ1 _ => ?_
  (conv => whnf); repeat (first | refine AW.seqA ?_ | refine AW.blockA ?_ | (refine AW.regA ok ?_; conv => whnf) | (refine AW.condA ?_; conv => whnf) | (refine AW.exitA ?_; conv => whnf) | (refine AW.retA ?_; conv => whnf) | (refine AW.skipA ?_; conv => whnf))
  refine new_d room _ _ fun d σ2 F hD hk => ?_
  (conv => whnf); repeat (first | refine AW.seqA ?_ | refine AW.blockA ?_ | (refine AW.regA ok ?_; conv => whnf) | (refine AW.condA ?_; conv => whnf) | (refine AW.exitA ?_; conv => whnf) | (refine AW.retA ?_; conv => whnf) | (refine AW.skipA ?_; conv => whnf))
  refine few_v l hl _ _ ?_
  (conv => whnf); repeat (first | refine AW.seqA ?_ | refine AW.blockA ?_ | (refine AW.regA ok ?_; conv => whnf) | (refine AW.condA ?_; conv => whnf) | (refine AW.exitA ?_; conv => whnf) | (refine AW.retA ?_; conv => whnf) | (refine AW.skipA ?_; conv => whnf))
  have hL : ((fewL l).map ActL.av).length = (fewL l).length := List.length_map _
  refine AW.loopA (ι := Nat × List (List UInt8) × Option Nat × Dk × (Nat → Prop) × Store) (fun i => KeepI σ l d i.1 i.2.1 i.2.2.1 i.2.2.2.1 i.2.2.2.2.1 i.2.2.2.2.2)
    (fun i => [(22, i64 (i.1 : Int)), (21, i64 (((fewL l).map ActL.av).length : Nat)), (20, acts (fewL l)), (7, inV i.2.2.1 i.2.1.length), (6, ptrA d), (5, .val (.bool true))])
    (fun i => i.2.2.2.2.2) (fun i => (fewL l).length - i.1) (0, [], none, Dk.new room, F, σ2) ⟨Nat.zero_le _, Nat.zero_le _, new_jinv room, new_wf room hroom, hD, fun _ => rfl, by simp, Nat.zero_le _⟩
    (.cons rfl (.cons rfl (.cons rfl (.cons rfl (.cons rfl (.cons rfl (.nil _))))))) (.refl _) ?_
  clear hD
  rintro ⟨i, ins, ob, D, F, τ⟩ ⟨hi, hi30, hj, hw, hD, hno, hso, hlen⟩
  dsimp only at hi hi30 hj hw hD hno hso hlen ⊢
  (conv => whnf); repeat (first | refine AW.seqA ?_ | refine AW.blockA ?_ | (refine AW.regA ok ?_; conv => whnf) | (refine AW.condA ?_; conv => whnf) | (refine AW.exitA ?_; conv => whnf) | (refine AW.retA ?_; conv => whnf) | (refine AW.skipA ?_; conv => whnf))
  refine bcase_intro (fun hb => ?_) (fun hb => ?_) <;> rw [hb]
  rotate_left
  · (conv => whnf); repeat (first | refine AW.seqA ?_ | refine AW.blockA ?_ | (refine AW.regA ok ?_; conv => whnf) | (refine AW.condA ?_; conv => whnf) | (refine AW.exitA ?_; conv => whnf) | (refine AW.retA ?_; conv => whnf) | (refine AW.skipA ?_; conv => whnf))
    exact seen (hR _)
  have hlt : i < (fewL l).length := by rw [hL] at hb; simp at hb; omega
  (conv => whnf); repeat (first | refine AW.seqA ?_ | refine AW.blockA ?_ | (refine AW.regA ok ?_; conv => whnf) | (refine AW.condA ?_; conv => whnf) | (refine AW.exitA ?_; conv => whnf) | (refine AW.retA ?_; conv => whnf) | (refine AW.skipA ?_; conv => whnf))
  refine ⟨(fewL l)[i].av, Int.natCast_nonneg _, by simp [hlt], ?_⟩
  have hmem : (fewL l)[i] ∈ fewL l := List.getElem_mem hlt
  have hsm : (fewL l)[i].small = true := (List.mem_filter.1 hmem).2
  have hNi : (fewL l)[i].n ≤ 9223372036854775807 := hN _ (List.mem_of_mem_take (List.mem_filter.1 hmem).1)
  generalize (fewL l)[i] = a at hsm hNi ⊢
  obtain ⟨kind, x, w, n⟩ := a
  have hsm2 : x.length ≤ 100 ∧ w.bytes.length ≤ 50 := by
    simp only [ActL.small, Bool.and_eq_true, decide_eq_true_eq] at hsm; exact hsm
  dsimp only at hNi
  (conv => whnf); repeat (first | refine AW.seqA ?_ | refine AW.blockA ?_ | (refine AW.regA ok ?_; conv => whnf) | (refine AW.condA ?_; conv => whnf) | (refine AW.exitA ?_; conv => whnf) | (refine AW.retA ?_; conv => whnf) | (refine AW.skipA ?_; conv => whnf))
  refine ⟨Nat.le_refl 5, ?_⟩
  (conv => whnf); repeat (first | refine AW.seqA ?_ | refine AW.blockA ?_ | (refine AW.regA ok ?_; conv => whnf) | (refine AW.condA ?_; conv => whnf) | (refine AW.exitA ?_; conv => whnf) | (refine AW.retA ?_; conv => whnf) | (refine AW.skipA ?_; conv => whnf))
  intro t ht
  (conv => whnf); repeat (first | refine AW.seqA ?_ | refine AW.blockA ?_ | (refine AW.regA ok ?_; conv => whnf) | (refine AW.condA ?_; conv => whnf) | (refine AW.exitA ?_; conv => whnf) | (refine AW.retA ?_; conv => whnf) | (refine AW.skipA ?_; conv => whnf))
  refine ⟨_, Store.get_set _ _ _, Nat.le_refl 5, ?_⟩
  (conv => whnf); repeat (first | refine AW.seqA ?_ | refine AW.blockA ?_ | (refine AW.regA ok ?_; conv => whnf) | (refine AW.condA ?_; conv => whnf) | (refine AW.exitA ?_; conv => whnf) | (refine AW.retA ?_; conv => whnf) | (refine AW.skipA ?_; conv => whnf))
  refine bcase_intro (fun hb => ?_) (fun hb => ?_) <;> rw [hb]
  · (conv => whnf); repeat (first | refine AW.seqA ?_ | refine AW.blockA ?_ | (refine AW.regA ok ?_; conv => whnf) | (refine AW.condA ?_; conv => whnf) | (refine AW.exitA ?_; conv => whnf) | (refine AW.retA ?_; conv => whnf) | (refine AW.skipA ?_; conv => whnf))
    exact seen (hR _)
  have hi29 : i < 30 := by simp at hb; omega
  have hsub : ∀ o o', SubS ((τ.set t o).set t o') τ := fun o o' => by rw [Store.set_set]; exact SubS.set (.refl _) ht _
  refine AW.see (e' := [(22, i64 (i : Int)), (21, i64 (((fewL l).map ActL.av).length : Nat)), (20, acts (fewL l)), (7, inV ob ins.length), (6, ptrA d), (5, .val (.bool true)), (9, .iptr [u8 kind, bys x, i64 w.names, ints w.bytes, i64 n])]) (σ' := τ) (hsub _ _)
    (.keep rfl (hsub _ _) (.keep rfl (hsub _ _) (.keep rfl (hsub _ _) (.keep rfl (hsub _ _) (.keep rfl (hsub _ _) (.keep rfl (hsub _ _) (.cons rfl (Frz.ptr (Store.get_set _ _ _) (hsub _ _) ht) (.nil _ _ _)))))))) ?_
  clear hsub ht
  (conv => whnf); repeat (first | refine AW.seqA ?_ | refine AW.blockA ?_ | (refine AW.regA ok ?_; conv => whnf) | (refine AW.condA ?_; conv => whnf) | (refine AW.exitA ?_; conv => whnf) | (refine AW.retA ?_; conv => whnf) | (refine AW.skipA ?_; conv => whnf))
  have hN0 : 0 ≤ (if 0 > n then 0 else n) := by split <;> omega
  have hN1 : (if 0 > n then 0 else n) ≤ 9223372036854775807 := by split <;> omega
  refine doom_d hD _ hN0 _ fun τ2 hD2 hk2 => ?_
  have hw2 := hw.doom hN0 hN1
  (conv => whnf); repeat (first | refine AW.seqA ?_ | refine AW.blockA ?_ | (refine AW.regA ok ?_; conv => whnf) | (refine AW.condA ?_; conv => whnf) | (refine AW.exitA ?_; conv => whnf) | (refine AW.retA ?_; conv => whnf) | (refine AW.skipA ?_; conv => whnf))
  refine add_d hD2 hw2 x (by omega) (by omega) (by omega) _ fun r hr τ3 F3 hD3 hk3 => ?_
  have hnoted := add_noted hj (by omega) hr
  have hw3 := addR_wf hw2 hr
  obtain ⟨D3, e3⟩ := r
  dsimp only at hD3 hnoted hw3 ⊢
  (conv => whnf); repeat (first | refine AW.seqA ?_ | refine AW.blockA ?_ | (refine AW.regA ok ?_; conv => whnf) | (refine AW.condA ?_; conv => whnf) | (refine AW.exitA ?_; conv => whnf) | (refine AW.retA ?_; conv => whnf) | (refine AW.skipA ?_; conv => whnf))
  refine ⟨by show 2 ≤ 3; omega, ?_⟩
  (conv => whnf); repeat (first | refine AW.seqA ?_ | refine AW.blockA ?_ | (refine AW.regA ok ?_; conv => whnf) | (refine AW.condA ?_; conv => whnf) | (refine AW.exitA ?_; conv => whnf) | (refine AW.retA ?_; conv => whnf) | (refine AW.skipA ?_; conv => whnf))
  refine crash_d hD3 (hw3.ok (by omega) (by omega)) w (by omega) _ fun g hg1 hg2 τ4 F4 hD4 hk4 => ?_
  have hfallen := crash_noted hnoted hg1
  have hw4 := hw3.crash w g
  (conv => whnf); repeat (first | refine AW.seqA ?_ | refine AW.blockA ?_ | (refine AW.regA ok ?_; conv => whnf) | (refine AW.condA ?_; conv => whnf) | (refine AW.exitA ?_; conv => whnf) | (refine AW.retA ?_; conv => whnf) | (refine AW.skipA ?_; conv => whnf))
  refine open_d hD4 hw4 (by omega) (by omega) _ fun out e D5 ho τ5 F5 hD5 hk5 => ?_
  have hres := open_fallen hfallen hw4.d1 hj.len (by omega) ho
  have hw5 := openR_wf hw4 ho
  have hin5 : ∀ b, ob = some b → τ5 b = some (.row (ins.map bys)) ∧ ¬ F5 b := fun b hb => by
    obtain ⟨a1, a2⟩ := hso b hb
    obtain ⟨a3, a4⟩ := hk2 b _ a1 a2
    obtain ⟨a5, a6⟩ := hk3 b _ a3 a4
    obtain ⟨a7, a8⟩ := hk4 b _ a5 a6
    exact hk5 b _ a7 a8
  clear hk2 hk3 hk4 hk5 hso hD hD2 hD3 hD4 hfallen hnoted ho hr
  (conv => whnf); repeat (first | refine AW.seqA ?_ | refine AW.blockA ?_ | (refine AW.regA ok ?_; conv => whnf) | (refine AW.condA ?_; conv => whnf) | (refine AW.exitA ?_; conv => whnf) | (refine AW.retA ?_; conv => whnf) | (refine AW.skipA ?_; conv => whnf))
  rcases hres with rfl | ⟨rfl, hres⟩
  · (conv => whnf); repeat (first | refine AW.seqA ?_ | refine AW.blockA ?_ | (refine AW.regA ok ?_; conv => whnf) | (refine AW.condA ?_; conv => whnf) | (refine AW.exitA ?_; conv => whnf) | (refine AW.retA ?_; conv => whnf) | (refine AW.skipA ?_; conv => whnf))
    exact seen (hR _)
  (conv => whnf); repeat (first | refine AW.seqA ?_ | refine AW.blockA ?_ | (refine AW.regA ok ?_; conv => whnf) | (refine AW.condA ?_; conv => whnf) | (refine AW.exitA ?_; conv => whnf) | (refine AW.retA ?_; conv => whnf) | (refine AW.skipA ?_; conv => whnf))
  cases ob
  focus
    have hi0 := hno rfl
    subst hi0
    apply share (σ := τ5)
    rotate_left
    intro fin
    refine AW.draw ok mixed rfl rfl ?_
    conv => whnf
    refine ⟨?_, ?_⟩ <;> conv => whnf
    · intro c hc
      have sc : τ5 c = none := SubS.none_ (σ' := τ5) (by repeat (first | exact SubS.refl _ | refine SubS.set ?_ (by assumption) _ | refine SubS.del ?_ (by assumption))) hc
      conv => whnf
      refine ⟨?_, ?_⟩ <;> conv => whnf
      · refine ⟨_, (by repeat (first | exact Store.get_set _ _ _ | assumption | rw [Store.get_set_ne _ (by assumption)] | rw [Store.del_ne _ (by assumption)])), rfl, rfl, by show (0 + 0) * 24 ≤ 140737488355328; omega, by omega, fun b1 hb1 => ?_⟩
        have sb1 : τ5 b1 = none := SubS.none_ (σ' := τ5) (by repeat (first | exact SubS.refl _ | refine SubS.set ?_ (by assumption) _ | refine SubS.del ?_ (by assumption))) hb1
        conv => whnf
        intro y hy
        have sy : τ5 y = none := SubS.none_ (σ' := τ5) (by repeat (first | exact SubS.refl _ | refine SubS.set ?_ (by assumption) _ | refine SubS.del ?_ (by assumption))) hy
        have nb1y : b1 ≠ y := Store.fresh_ne hy (by repeat (first | exact Store.get_set _ _ _ | assumption | rw [Store.get_set_ne _ (by assumption)] | rw [Store.del_ne _ (by assumption)]))
        have nyb1 := Ne.symm nb1y
        conv => whnf
        refine ⟨_, (by repeat (first | exact Store.get_set _ _ _ | assumption | rw [Store.get_set_ne _ (by assumption)] | rw [Store.del_ne _ (by assumption)])), by show 0 + 1 * 1 ≤ 1; omega, ?_⟩
        refine ⟨_, (by repeat (first | exact Store.get_set _ _ _ | assumption | rw [Store.get_set_ne _ (by assumption)] | rw [Store.del_ne _ (by assumption)])), rfl, by simp [repl], by show (0 + 0 + 1) * 24 ≤ 140737488355328; omega, by show 0 + 0 + 1 ≤ 9223372036854775807; omega, fun b2 hb2 => ?_⟩
        have sb2 : τ5 b2 = none := SubS.none_ (σ' := τ5) (by repeat (first | exact SubS.refl _ | refine SubS.set ?_ (by assumption) _ | refine SubS.del ?_ (by assumption))) hb2
        conv => whnf
        refine AW.drop (e' := [(22, i64 (i : Int)), (21, i64 (((fewL l).map ActL.av).length : Nat)), (20, acts (fewL l)), (7, inV none 0), (6, ptrA d), (5, .val (.bool true)), (10, i64 e3), (11, byss out), (12, i64 0), (13, .arr b2 0 ([] ++ [x] : List (List UInt8)).length 1)]) (σ' := τ5.set b2 (.row (([] ++ [x]).map bys))) (fin b2 sb2) (.cons rfl (.cons rfl (.cons rfl (.cons rfl (.cons rfl (.cons rfl (.cons rfl (.cons rfl (.cons rfl (.cons rfl (.nil _))))))))))) (SubS.set2e (σ' := τ5) (by repeat (first | exact SubS.refl _ | refine SubS.set ?_ (by assumption) _ | refine SubS.del ?_ (by assumption))) b2 (by simp [repl]; rfl))
      · intro y hy
        have sy : τ5 y = none := SubS.none_ (σ' := τ5) (by repeat (first | exact SubS.refl _ | refine SubS.set ?_ (by assumption) _ | refine SubS.del ?_ (by assumption))) hy
        have ncy : c ≠ y := Store.fresh_ne hy (by repeat (first | exact Store.get_set _ _ _ | assumption | rw [Store.get_set_ne _ (by assumption)] | rw [Store.del_ne _ (by assumption)]))
        have nyc := Ne.symm ncy
        conv => whnf
        refine ⟨_, (by repeat (first | exact Store.get_set _ _ _ | assumption | rw [Store.get_set_ne _ (by assumption)] | rw [Store.del_ne _ (by assumption)])), rfl, rfl, by show (0 + 0) * 24 ≤ 140737488355328; omega, by omega, fun b1 hb1 => ?_⟩
        have sb1 : τ5 b1 = none := SubS.none_ (σ' := τ5) (by repeat (first | exact SubS.refl _ | refine SubS.set ?_ (by assumption) _ | refine SubS.del ?_ (by assumption))) hb1
        have nyb1 : y ≠ b1 := Store.fresh_ne hb1 (by repeat (first | exact Store.get_set _ _ _ | assumption | rw [Store.get_set_ne _ (by assumption)] | rw [Store.del_ne _ (by assumption)]))
        have nb1y := Ne.symm nyb1
        conv => whnf
        refine ⟨_, (by repeat (first | exact Store.get_set _ _ _ | assumption | rw [Store.get_set_ne _ (by assumption)] | rw [Store.del_ne _ (by assumption)])), by show 0 + 1 * 1 ≤ 1; omega, ?_⟩
        refine ⟨_, (by repeat (first | exact Store.get_set _ _ _ | assumption | rw [Store.get_set_ne _ (by assumption)] | rw [Store.del_ne _ (by assumption)])), rfl, by simp [repl], by show (0 + 0 + 1) * 24 ≤ 140737488355328; omega, by show 0 + 0 + 1 ≤ 9223372036854775807; omega, fun b2 hb2 => ?_⟩
        have sb2 : τ5 b2 = none := SubS.none_ (σ' := τ5) (by repeat (first | exact SubS.refl _ | refine SubS.set ?_ (by assumption) _ | refine SubS.del ?_ (by assumption))) hb2
        conv => whnf
        refine AW.drop (e' := [(22, i64 (i : Int)), (21, i64 (((fewL l).map ActL.av).length : Nat)), (20, acts (fewL l)), (7, inV none 0), (6, ptrA d), (5, .val (.bool true)), (10, i64 e3), (11, byss out), (12, i64 0), (13, .arr b2 0 ([] ++ [x] : List (List UInt8)).length 1)]) (σ' := τ5.set b2 (.row (([] ++ [x]).map bys))) (fin b2 sb2) (.cons rfl (.cons rfl (.cons rfl (.cons rfl (.cons rfl (.cons rfl (.cons rfl (.cons rfl (.cons rfl (.cons rfl (.nil _))))))))))) (SubS.set2e (σ' := τ5) (by repeat (first | exact SubS.refl _ | refine SubS.set ?_ (by assumption) _ | refine SubS.del ?_ (by assumption))) b2 (by simp [repl]; rfl))
    · intro y hy
      have sy : τ5 y = none := SubS.none_ (σ' := τ5) (by repeat (first | exact SubS.refl _ | refine SubS.set ?_ (by assumption) _ | refine SubS.del ?_ (by assumption))) hy
      conv => whnf
      intro c hc
      have sc : τ5 c = none := SubS.none_ (σ' := τ5) (by repeat (first | exact SubS.refl _ | refine SubS.set ?_ (by assumption) _ | refine SubS.del ?_ (by assumption))) hc
      have nyc : y ≠ c := Store.fresh_ne hc (by repeat (first | exact Store.get_set _ _ _ | assumption | rw [Store.get_set_ne _ (by assumption)] | rw [Store.del_ne _ (by assumption)]))
      have ncy := Ne.symm nyc
      conv => whnf
      refine ⟨_, (by repeat (first | exact Store.get_set _ _ _ | assumption | rw [Store.get_set_ne _ (by assumption)] | rw [Store.del_ne _ (by assumption)])), rfl, rfl, by show (0 + 0) * 24 ≤ 140737488355328; omega, by omega, fun b1 hb1 => ?_⟩
      have sb1 : τ5 b1 = none := SubS.none_ (σ' := τ5) (by repeat (first | exact SubS.refl _ | refine SubS.set ?_ (by assumption) _ | refine SubS.del ?_ (by assumption))) hb1
      have nyb1 : y ≠ b1 := Store.fresh_ne hb1 (by repeat (first | exact Store.get_set _ _ _ | assumption | rw [Store.get_set_ne _ (by assumption)] | rw [Store.del_ne _ (by assumption)]))
      have nb1y := Ne.symm nyb1
      conv => whnf
      refine ⟨_, (by repeat (first | exact Store.get_set _ _ _ | assumption | rw [Store.get_set_ne _ (by assumption)] | rw [Store.del_ne _ (by assumption)])), by show 0 + 1 * 1 ≤ 1; omega, ?_⟩
      refine ⟨_, (by repeat (first | exact Store.get_set _ _ _ | assumption | rw [Store.get_set_ne _ (by assumption)] | rw [Store.del_ne _ (by assumption)])), rfl, by simp [repl], by show (0 + 0 + 1) * 24 ≤ 140737488355328; omega, by show 0 + 0 + 1 ≤ 9223372036854775807; omega, fun b2 hb2 => ?_⟩
      have sb2 : τ5 b2 = none := SubS.none_ (σ' := τ5) (by repeat (first | exact SubS.refl _ | refine SubS.set ?_ (by assumption) _ | refine SubS.del ?_ (by assumption))) hb2
      conv => whnf
      refine AW.drop (e' := [(22, i64 (i : Int)), (21, i64 (((fewL l).map ActL.av).length : Nat)), (20, acts (fewL l)), (7, inV none 0), (6, ptrA d), (5, .val (.bool true)), (10, i64 e3), (11, byss out), (12, i64 0), (13, .arr b2 0 ([] ++ [x] : List (List UInt8)).length 1)]) (σ' := τ5.set b2 (.row (([] ++ [x]).map bys))) (fin b2 sb2) (.cons rfl (.cons rfl (.cons rfl (.cons rfl (.cons rfl (.cons rfl (.cons rfl (.cons rfl (.cons rfl (.cons rfl (.nil _))))))))))) (SubS.set2e (σ' := τ5) (by repeat (first | exact SubS.refl _ | refine SubS.set ?_ (by assumption) _ | refine SubS.del ?_ (by assumption))) b2 (by simp [repl]; rfl))
  rotate_left
  focus
    rename_i b
    obtain ⟨hb5, hbF⟩ := hin5 b rfl
    have hT : List.take ins.length (ins.map bys) = ins.map bys := List.take_of_length_le (by simp)
    apply share (σ := τ5)
    rotate_left
    intro fin
    refine AW.draw ok mixed rfl rfl ?_
    conv => whnf
    refine ⟨?_, ?_⟩ <;> conv => whnf
    · intro c hc
      have sc : τ5 c = none := SubS.none_ (σ' := τ5) (by repeat (first | exact SubS.refl _ | refine SubS.set ?_ (by assumption) _ | refine SubS.del ?_ (by assumption))) hc
      have nbc : b ≠ c := Store.fresh_ne hc (by repeat (first | exact Store.get_set _ _ _ | assumption | rw [Store.get_set_ne _ (by assumption)] | rw [Store.del_ne _ (by assumption)]))
      have ncb := Ne.symm nbc
      conv => whnf
      refine ⟨?_, ?_⟩ <;> conv => whnf
      · refine ⟨_, (by repeat (first | exact Store.get_set _ _ _ | assumption | rw [Store.get_set_ne _ (by assumption)] | rw [Store.del_ne _ (by assumption)])), by show 0 + ins.length * 1 ≤ _; rw [List.length_map]; omega, ?_⟩
        refine ⟨_, (by repeat (first | exact Store.get_set _ _ _ | assumption | rw [Store.get_set_ne _ (by assumption)] | rw [Store.del_ne _ (by assumption)])), rfl, rfl, by show (0 + ins.length) * 24 ≤ 140737488355328; omega, by show 0 + ins.length ≤ 9223372036854775807; omega, fun b1 hb1 => ?_⟩
        have sb1 : τ5 b1 = none := SubS.none_ (σ' := τ5) (by repeat (first | exact SubS.refl _ | refine SubS.set ?_ (by assumption) _ | refine SubS.del ?_ (by assumption))) hb1
        have nbb1 : b ≠ b1 := Store.fresh_ne hb1 (by repeat (first | exact Store.get_set _ _ _ | assumption | rw [Store.get_set_ne _ (by assumption)] | rw [Store.del_ne _ (by assumption)]))
        have nb1b := Ne.symm nbb1
        conv => whnf
        intro y hy
        have sy : τ5 y = none := SubS.none_ (σ' := τ5) (by repeat (first | exact SubS.refl _ | refine SubS.set ?_ (by assumption) _ | refine SubS.del ?_ (by assumption))) hy
        have nby : b ≠ y := Store.fresh_ne hy (by repeat (first | exact Store.get_set _ _ _ | assumption | rw [Store.get_set_ne _ (by assumption)] | rw [Store.del_ne _ (by assumption)]))
        have nyb := Ne.symm nby
        have nb1y : b1 ≠ y := Store.fresh_ne hy (by repeat (first | exact Store.get_set _ _ _ | assumption | rw [Store.get_set_ne _ (by assumption)] | rw [Store.del_ne _ (by assumption)]))
        have nyb1 := Ne.symm nb1y
        conv => whnf
        refine ⟨_, (by repeat (first | exact Store.get_set _ _ _ | assumption | rw [Store.get_set_ne _ (by assumption)] | rw [Store.del_ne _ (by assumption)])), by show 0 + 1 * 1 ≤ 1; omega, ?_⟩
        refine ⟨_, (by repeat (first | exact Store.get_set _ _ _ | assumption | rw [Store.get_set_ne _ (by assumption)] | rw [Store.del_ne _ (by assumption)])), rfl, by simp [repl], by show (0 + ins.length + 1) * 24 ≤ 140737488355328; omega, by show 0 + ins.length + 1 ≤ 9223372036854775807; omega, fun b2 hb2 => ?_⟩
        have sb2 : τ5 b2 = none := SubS.none_ (σ' := τ5) (by repeat (first | exact SubS.refl _ | refine SubS.set ?_ (by assumption) _ | refine SubS.del ?_ (by assumption))) hb2
        conv => whnf
        refine AW.drop (e' := [(22, i64 (i : Int)), (21, i64 (((fewL l).map ActL.av).length : Nat)), (20, acts (fewL l)), (7, inV (some b) ins.length), (6, ptrA d), (5, .val (.bool true)), (10, i64 e3), (11, byss out), (12, i64 0), (13, .arr b2 0 (ins ++ [x] : List (List UInt8)).length 1)]) (σ' := τ5.set b2 (.row ((ins ++ [x]).map bys))) (fin b2 sb2) (.cons rfl (.cons rfl (.cons rfl (.cons rfl (.cons rfl (.cons rfl (.cons rfl (.cons rfl (.cons rfl (.cons (by show some (AV.arr b2 0 (0 + ins.length + 1) 1) = some (AV.arr b2 0 (ins ++ [x]).length 1); rw [List.length_append, Nat.zero_add]; rfl) (.nil _))))))))))) (SubS.set2e (σ' := τ5) (by repeat (first | exact SubS.refl _ | refine SubS.set ?_ (by assumption) _ | refine SubS.del ?_ (by assumption))) b2 (by simp [repl, hT]; rfl))
      · intro y hy
        have sy : τ5 y = none := SubS.none_ (σ' := τ5) (by repeat (first | exact SubS.refl _ | refine SubS.set ?_ (by assumption) _ | refine SubS.del ?_ (by assumption))) hy
        have nby : b ≠ y := Store.fresh_ne hy (by repeat (first | exact Store.get_set _ _ _ | assumption | rw [Store.get_set_ne _ (by assumption)] | rw [Store.del_ne _ (by assumption)]))
        have nyb := Ne.symm nby
        have ncy : c ≠ y := Store.fresh_ne hy (by repeat (first | exact Store.get_set _ _ _ | assumption | rw [Store.get_set_ne _ (by assumption)] | rw [Store.del_ne _ (by assumption)]))
        have nyc := Ne.symm ncy
        conv => whnf
        refine ⟨_, (by repeat (first | exact Store.get_set _ _ _ | assumption | rw [Store.get_set_ne _ (by assumption)] | rw [Store.del_ne _ (by assumption)])), by show 0 + ins.length * 1 ≤ _; rw [List.length_map]; omega, ?_⟩
        refine ⟨_, (by repeat (first | exact Store.get_set _ _ _ | assumption | rw [Store.get_set_ne _ (by assumption)] | rw [Store.del_ne _ (by assumption)])), rfl, rfl, by show (0 + ins.length) * 24 ≤ 140737488355328; omega, by show 0 + ins.length ≤ 9223372036854775807; omega, fun b1 hb1 => ?_⟩
        have sb1 : τ5 b1 = none := SubS.none_ (σ' := τ5) (by repeat (first | exact SubS.refl _ | refine SubS.set ?_ (by assumption) _ | refine SubS.del ?_ (by assumption))) hb1
        have nbb1 : b ≠ b1 := Store.fresh_ne hb1 (by repeat (first | exact Store.get_set _ _ _ | assumption | rw [Store.get_set_ne _ (by assumption)] | rw [Store.del_ne _ (by assumption)]))
        have nb1b := Ne.symm nbb1
        have nyb1 : y ≠ b1 := Store.fresh_ne hb1 (by repeat (first | exact Store.get_set _ _ _ | assumption | rw [Store.get_set_ne _ (by assumption)] | rw [Store.del_ne _ (by assumption)]))
        have nb1y := Ne.symm nyb1
        conv => whnf
        refine ⟨_, (by repeat (first | exact Store.get_set _ _ _ | assumption | rw [Store.get_set_ne _ (by assumption)] | rw [Store.del_ne _ (by assumption)])), by show 0 + 1 * 1 ≤ 1; omega, ?_⟩
        refine ⟨_, (by repeat (first | exact Store.get_set _ _ _ | assumption | rw [Store.get_set_ne _ (by assumption)] | rw [Store.del_ne _ (by assumption)])), rfl, by simp [repl], by show (0 + ins.length + 1) * 24 ≤ 140737488355328; omega, by show 0 + ins.length + 1 ≤ 9223372036854775807; omega, fun b2 hb2 => ?_⟩
        have sb2 : τ5 b2 = none := SubS.none_ (σ' := τ5) (by repeat (first | exact SubS.refl _ | refine SubS.set ?_ (by assumption) _ | refine SubS.del ?_ (by assumption))) hb2
        conv => whnf
        refine AW.drop (e' := [(22, i64 (i : Int)), (21, i64 (((fewL l).map ActL.av).length : Nat)), (20, acts (fewL l)), (7, inV (some b) ins.length), (6, ptrA d), (5, .val (.bool true)), (10, i64 e3), (11, byss out), (12, i64 0), (13, .arr b2 0 (ins ++ [x] : List (List UInt8)).length 1)]) (σ' := τ5.set b2 (.row ((ins ++ [x]).map bys))) (fin b2 sb2) (.cons rfl (.cons rfl (.cons rfl (.cons rfl (.cons rfl (.cons rfl (.cons rfl (.cons rfl (.cons rfl (.cons (by show some (AV.arr b2 0 (0 + ins.length + 1) 1) = some (AV.arr b2 0 (ins ++ [x]).length 1); rw [List.length_append, Nat.zero_add]; rfl) (.nil _))))))))))) (SubS.set2e (σ' := τ5) (by repeat (first | exact SubS.refl _ | refine SubS.set ?_ (by assumption) _ | refine SubS.del ?_ (by assumption))) b2 (by simp [repl, hT]; rfl))
    · intro y hy
      have sy : τ5 y = none := SubS.none_ (σ' := τ5) (by repeat (first | exact SubS.refl _ | refine SubS.set ?_ (by assumption) _ | refine SubS.del ?_ (by assumption))) hy
      have nby : b ≠ y := Store.fresh_ne hy (by repeat (first | exact Store.get_set _ _ _ | assumption | rw [Store.get_set_ne _ (by assumption)] | rw [Store.del_ne _ (by assumption)]))
      have nyb := Ne.symm nby
      conv => whnf
      intro c hc
      have sc : τ5 c = none := SubS.none_ (σ' := τ5) (by repeat (first | exact SubS.refl _ | refine SubS.set ?_ (by assumption) _ | refine SubS.del ?_ (by assumption))) hc
      have nbc : b ≠ c := Store.fresh_ne hc (by repeat (first | exact Store.get_set _ _ _ | assumption | rw [Store.get_set_ne _ (by assumption)] | rw [Store.del_ne _ (by assumption)]))
      have ncb := Ne.symm nbc
      have nyc : y ≠ c := Store.fresh_ne hc (by repeat (first | exact Store.get_set _ _ _ | assumption | rw [Store.get_set_ne _ (by assumption)] | rw [Store.del_ne _ (by assumption)]))
      have ncy := Ne.symm nyc
      conv => whnf
      refine ⟨_, (by repeat (first | exact Store.get_set _ _ _ | assumption | rw [Store.get_set_ne _ (by assumption)] | rw [Store.del_ne _ (by assumption)])), by show 0 + ins.length * 1 ≤ _; rw [List.length_map]; omega, ?_⟩
      refine ⟨_, (by repeat (first | exact Store.get_set _ _ _ | assumption | rw [Store.get_set_ne _ (by assumption)] | rw [Store.del_ne _ (by assumption)])), rfl, rfl, by show (0 + ins.length) * 24 ≤ 140737488355328; omega, by show 0 + ins.length ≤ 9223372036854775807; omega, fun b1 hb1 => ?_⟩
      have sb1 : τ5 b1 = none := SubS.none_ (σ' := τ5) (by repeat (first | exact SubS.refl _ | refine SubS.set ?_ (by assumption) _ | refine SubS.del ?_ (by assumption))) hb1
      have nbb1 : b ≠ b1 := Store.fresh_ne hb1 (by repeat (first | exact Store.get_set _ _ _ | assumption | rw [Store.get_set_ne _ (by assumption)] | rw [Store.del_ne _ (by assumption)]))
      have nb1b := Ne.symm nbb1
      have nyb1 : y ≠ b1 := Store.fresh_ne hb1 (by repeat (first | exact Store.get_set _ _ _ | assumption | rw [Store.get_set_ne _ (by assumption)] | rw [Store.del_ne _ (by assumption)]))
      have nb1y := Ne.symm nyb1
      conv => whnf
      refine ⟨_, (by repeat (first | exact Store.get_set _ _ _ | assumption | rw [Store.get_set_ne _ (by assumption)] | rw [Store.del_ne _ (by assumption)])), by show 0 + 1 * 1 ≤ 1; omega, ?_⟩
      refine ⟨_, (by repeat (first | exact Store.get_set _ _ _ | assumption | rw [Store.get_set_ne _ (by assumption)] | rw [Store.del_ne _ (by assumption)])), rfl, by simp [repl], by show (0 + ins.length + 1) * 24 ≤ 140737488355328; omega, by show 0 + ins.length + 1 ≤ 9223372036854775807; omega, fun b2 hb2 => ?_⟩
      have sb2 : τ5 b2 = none := SubS.none_ (σ' := τ5) (by repeat (first | exact SubS.refl _ | refine SubS.set ?_ (by assumption) _ | refine SubS.del ?_ (by assumption))) hb2
      conv => whnf
      refine AW.drop (e' := [(22, i64 (i : Int)), (21, i64 (((fewL l).map ActL.av).length : Nat)), (20, acts (fewL l)), (7, inV (some b) ins.length), (6, ptrA d), (5, .val (.bool true)), (10, i64 e3), (11, byss out), (12, i64 0), (13, .arr b2 0 (ins ++ [x] : List (List UInt8)).length 1)]) (σ' := τ5.set b2 (.row ((ins ++ [x]).map bys))) (fin b2 sb2) (.cons rfl (.cons rfl (.cons rfl (.cons rfl (.cons rfl (.cons rfl (.cons rfl (.cons rfl (.cons rfl (.cons (by show some (AV.arr b2 0 (0 + ins.length + 1) 1) = some (AV.arr b2 0 (ins ++ [x]).length 1); rw [List.length_append, Nat.zero_add]; rfl) (.nil _))))))))))) (SubS.set2e (σ' := τ5) (by repeat (first | exact SubS.refl _ | refine SubS.set ?_ (by assumption) _ | refine SubS.del ?_ (by assumption))) b2 (by simp [repl, hT]; rfl))
  · intro b2 hb2
    have hbF2 : ¬ F5 b2 := hD5.not hb2
    have hw6 : D5.Wf (108 * (i + 1)) (4 * (i + 1)) := hw5.mono (by omega) (by omega)
    rcases hres with ⟨hout, hj5⟩ | ⟨hout, hne, hj5⟩ <;> (have hout2 := hout.symm; clear hout; subst hout2)
    · (conv => whnf); repeat (first | refine AW.seqA ?_ | refine AW.blockA ?_ | (refine AW.regA ok ?_; conv => whnf) | (refine AW.condA ?_; conv => whnf) | (refine AW.exitA ?_; conv => whnf) | (refine AW.retA ?_; conv => whnf) | (refine AW.skipA ?_; conv => whnf))
      refine same_row _ _ (by rw [List.length_append]; simp only [List.length_cons, List.length_nil]; omega) (Store.get_set _ _ _) _ ?_
      rw [decide_eq_true rfl]
      (conv => whnf); repeat (first | refine AW.seqA ?_ | refine AW.blockA ?_ | (refine AW.regA ok ?_; conv => whnf) | (refine AW.condA ?_; conv => whnf) | (refine AW.exitA ?_; conv => whnf) | (refine AW.retA ?_; conv => whnf) | (refine AW.skipA ?_; conv => whnf))
      exact ⟨(i + 1, ins ++ [x], some b2, D5, F5, _), ⟨by dsimp only; omega, by dsimp only; omega, hj5, hw6, hD5.set hbF2 _, by simp, fun b h => by injection h with h; subst h; exact ⟨Store.get_set _ _ _, hbF2⟩, by dsimp only; rw [List.length_append]; simp only [List.length_cons, List.length_nil]; omega⟩, by dsimp only; omega, .idx rfl (by omega) (.cons rfl (.cons rfl (.cons rfl (.cons rfl (.cons rfl (.nil _)))))), .refl _⟩
    · (conv => whnf); repeat (first | refine AW.seqA ?_ | refine AW.blockA ?_ | (refine AW.regA ok ?_; conv => whnf) | (refine AW.condA ?_; conv => whnf) | (refine AW.exitA ?_; conv => whnf) | (refine AW.retA ?_; conv => whnf) | (refine AW.skipA ?_; conv => whnf))
      refine same_row _ _ (by omega) (Store.get_set _ _ _) _ ?_
      rw [decide_eq_false (fun h => by have := congrArg List.length h; simp at this)]
      (conv => whnf); repeat (first | refine AW.seqA ?_ | refine AW.blockA ?_ | (refine AW.regA ok ?_; conv => whnf) | (refine AW.condA ?_; conv => whnf) | (refine AW.exitA ?_; conv => whnf) | (refine AW.retA ?_; conv => whnf) | (refine AW.skipA ?_; conv => whnf))
      have he3 : (e3 == 0) = false := by simpa using hne
      rw [he3]
      (conv => whnf); repeat (first | refine AW.seqA ?_ | refine AW.blockA ?_ | (refine AW.regA ok ?_; conv => whnf) | (refine AW.condA ?_; conv => whnf) | (refine AW.exitA ?_; conv => whnf) | (refine AW.retA ?_; conv => whnf) | (refine AW.skipA ?_; conv => whnf))
      refine same_row _ _ (by omega) (by rw [Store.get_set_ne _ (Store.fresh_ne hb2 hb5)]; exact hb5) _ ?_
      rw [decide_eq_true rfl]
      (conv => whnf); repeat (first | refine AW.seqA ?_ | refine AW.blockA ?_ | (refine AW.regA ok ?_; conv => whnf) | (refine AW.condA ?_; conv => whnf) | (refine AW.exitA ?_; conv => whnf) | (refine AW.retA ?_; conv => whnf) | (refine AW.skipA ?_; conv => whnf))
      exact ⟨(i + 1, ins, some b, D5, F5, τ5), ⟨by dsimp only; omega, by dsimp only; omega, hj5, hw6, hD5, by simp, fun b h => by injection h with h; subst h; exact ⟨hb5, hbF⟩, by dsimp only [List.length_nil]; omega⟩, by dsimp only; omega, .idx rfl (by omega) (.cons rfl (.cons rfl (.cons rfl (.cons rfl (.cons rfl (.nil _)))))), SubS.set (.refl _) hb2 _⟩
  · intro b2 hb2
    have hbF2 : ¬ F5 b2 := hD5.not hb2
    have hw6 : D5.Wf (108 * (i + 1)) (4 * (i + 1)) := hw5.mono (by omega) (by omega)
    rcases hres with ⟨hout, hj5⟩ | ⟨hout, hne, hj5⟩ <;> (have hout2 := hout.symm; clear hout; subst hout2)
    · (conv => whnf); repeat (first | refine AW.seqA ?_ | refine AW.blockA ?_ | (refine AW.regA ok ?_; conv => whnf) | (refine AW.condA ?_; conv => whnf) | (refine AW.exitA ?_; conv => whnf) | (refine AW.retA ?_; conv => whnf) | (refine AW.skipA ?_; conv => whnf))
      refine same_row _ _ (by simp) (Store.get_set _ _ _) _ ?_
      rw [decide_eq_true rfl]
      (conv => whnf); repeat (first | refine AW.seqA ?_ | refine AW.blockA ?_ | (refine AW.regA ok ?_; conv => whnf) | (refine AW.condA ?_; conv => whnf) | (refine AW.exitA ?_; conv => whnf) | (refine AW.retA ?_; conv => whnf) | (refine AW.skipA ?_; conv => whnf))
      exact ⟨(i + 1, [] ++ [x], some b2, D5, F5, _), ⟨by dsimp only; omega, by dsimp only; omega, hj5, hw6, hD5.set hbF2 _, by simp, fun b h => by injection h with h; subst h; exact ⟨Store.get_set _ _ _, hbF2⟩, by dsimp only; rw [List.length_append]; simp only [List.length_cons, List.length_nil]; omega⟩, by dsimp only; omega, .idx rfl (by omega) (.cons rfl (.cons rfl (.cons rfl (.cons rfl (.cons rfl (.nil _)))))), .refl _⟩
    · (conv => whnf); repeat (first | refine AW.seqA ?_ | refine AW.blockA ?_ | (refine AW.regA ok ?_; conv => whnf) | (refine AW.condA ?_; conv => whnf) | (refine AW.exitA ?_; conv => whnf) | (refine AW.retA ?_; conv => whnf) | (refine AW.skipA ?_; conv => whnf))
      refine same_row _ _ (by simp) (Store.get_set _ _ _) _ ?_
      rw [decide_eq_false (fun h => by have := congrArg List.length h; simp at this)]
      (conv => whnf); repeat (first | refine AW.seqA ?_ | refine AW.blockA ?_ | (refine AW.regA ok ?_; conv => whnf) | (refine AW.condA ?_; conv => whnf) | (refine AW.exitA ?_; conv => whnf) | (refine AW.retA ?_; conv => whnf) | (refine AW.skipA ?_; conv => whnf))
      have he3 : (e3 == 0) = false := by simpa using hne
      rw [he3]
      (conv => whnf); repeat (first | refine AW.seqA ?_ | refine AW.blockA ?_ | (refine AW.regA ok ?_; conv => whnf) | (refine AW.condA ?_; conv => whnf) | (refine AW.exitA ?_; conv => whnf) | (refine AW.retA ?_; conv => whnf) | (refine AW.skipA ?_; conv => whnf))
      refine same_nil _ (by simp) _ ?_
      rw [decide_eq_true rfl]
      (conv => whnf); repeat (first | refine AW.seqA ?_ | refine AW.blockA ?_ | (refine AW.regA ok ?_; conv => whnf) | (refine AW.condA ?_; conv => whnf) | (refine AW.exitA ?_; conv => whnf) | (refine AW.retA ?_; conv => whnf) | (refine AW.skipA ?_; conv => whnf))
      exact ⟨(i + 1, [], none, D5, F5, τ5), ⟨by dsimp only; omega, by dsimp only; omega, hj5, hw6, hD5, fun _ => rfl, by simp, by dsimp only [List.length_nil]; omega⟩, by dsimp only; omega, .idx rfl (by omega) (.cons rfl (.cons rfl (.cons rfl (.cons rfl (.cons rfl (.nil _)))))), SubS.set (.refl _) hb2 _⟩

end Go.Cr.Try

/-
JournalKeeps: what was noted with OK is told, in order, whatever crashes come. For every input; no condition.
-/

namespace Go.Cr.Try
open Go Go.Cr Go.Proofs

/-- Lists whose elements fit. -/
theorem list_of {α : Type} {l : List (List AV)} {Q : List AV → Prop} {enc : α → List AV} {S : α → Prop} (h : ∀ x ∈ l, Q x) (hq : ∀ x, Q x → ∃ a, x = enc a ∧ S a) : ∃ m : List α, l = m.map enc ∧ ∀ a ∈ m, S a := by
  induction l with
  | nil => exact ⟨[], rfl, by simp⟩
  | cons x l ih =>
    obtain ⟨m, rfl, hs⟩ := ih fun y hy => h y (List.mem_cons_of_mem _ hy)
    obtain ⟨a, rfl, ha⟩ := hq x (h x List.mem_cons_self)
    exact ⟨a :: m, rfl, fun b hb => by
      rcases List.mem_cons.1 hb with rfl | hb
      · exact ha
      · exact hs b hb⟩

theorem bytes_of {f : Nat} {cs : List AV} (h : fitsC T (f + 2) 28 cs) : ∃ b : List UInt8, cs = [bys b] := by
  obtain ⟨l, h2, _, rfl⟩ := h
  obtain ⟨m, rfl, _⟩ := list_of (enc := fun c : UInt8 => [u8 c]) (S := fun _ => True) h2 fun x hx => by
    obtain ⟨⟨n, rfl, h0, h1⟩, _⟩ := hx
    have h0 : 0 ≤ n := h0
    have h1 : n ≤ 255 := h1
    refine ⟨UInt8.ofNat n.toNat, ?_, trivial⟩
    have : ((UInt8.ofNat n.toNat).toNat : Int) = n := by simp; omega
    show [AV.val (.int .u8 n)] = [AV.val (.int .u8 _)]
    rw [this]
  refine ⟨m, ?_⟩
  rw [List.map_map]; rfl

theorem ints_of {f : Nat} {cs : List AV} (h : fitsC T (f + 2) 29 cs) : ∃ l : List Int, cs = [ints l] := by
  obtain ⟨l, h2, _, rfl⟩ := h
  obtain ⟨m, rfl, _⟩ := list_of (enc := fun n : Int => [i64 n]) (S := fun _ => True) h2 fun x hx => by
    obtain ⟨⟨n, rfl, _⟩, _⟩ := hx
    exact ⟨n, rfl, trivial⟩
  refine ⟨m, ?_⟩
  rw [List.map_map]; rfl

theorem wreck_of {f : Nat} {cs : List AV} (h : fitsC T (f + 3) 31 cs) : ∃ w : Wrk, cs = [i64 w.names, ints w.bytes] := by
  obtain ⟨a, b, rfl, ⟨n, rfl, _⟩, a2, b2, rfl, h2, rfl⟩ := h
  obtain ⟨l, rfl⟩ := ints_of h2
  exact ⟨⟨n, l⟩, rfl⟩

theorem act_of {f : Nat} {cs : List AV} (h : fitsC T (f + 4) 33 cs) : ∃ a : ActL, cs = a.cells ∧ a.n ≤ 9223372036854775807 := by
  obtain ⟨a, b, rfl, ⟨k, rfl, h0, h1⟩, a2, b2, rfl, h2, a3, b3, rfl, h3, a4, b4, rfl, ⟨n, rfl, _, hn⟩, rfl⟩ := h
  have h0 : 0 ≤ k := h0
  have h1 : k ≤ 255 := h1
  have hn : n ≤ 9223372036854775807 := hn
  have hk : ((UInt8.ofNat k.toNat).toNat : Int) = k := by simp; omega
  obtain ⟨bs, rfl⟩ := bytes_of h2
  obtain ⟨w, rfl⟩ := wreck_of h3
  refine ⟨⟨UInt8.ofNat k.toNat, bs, w, n⟩, ?_, hn⟩
  show _ = [AV.val (.int .u8 ((UInt8.ofNat k.toNat).toNat : Int)), bys bs, i64 w.names, ints w.bytes, i64 n]
  rw [hk]; rfl

theorem acts_of {f : Nat} {cs : List AV} (h : fitsC T (f + 5) 22 cs) : ∃ l : List ActL, cs = [acts l] ∧ l.length ≤ 9223372036854775807 ∧ ∀ a ∈ l, a.n ≤ 9223372036854775807 := by
  obtain ⟨l, h2, hlen, rfl⟩ := h
  obtain ⟨m, rfl, hm⟩ := list_of (enc := ActL.cells) (S := fun a => a.n ≤ 9223372036854775807) h2 fun x hx => act_of hx.1
  refine ⟨m, ?_, by simpa using hlen, hm⟩
  rw [List.map_map]; rfl

end Go.Cr.Try

/-
JournalKeeps: what was noted with OK is told, in order, whatever crashes come. For every input; no condition.
-/
namespace Go.Proofs.Ytepgodnmdcbgeaa
open Go.ChangeShapes Go.WideShapes Go.ChangeAt Go.RowKit Go.Cr

theorem Try.own : ownKnob Try.prog.godebug = none := by kernel_rfl
theorem Try.laidOut : laidOutB Try.prog = true := by kernel_rfl

set_option maxRecDepth 100000 in
theorem keeps_lifted (os : Os) (started : os.Started) (H : Type) (enc : TypeId × Value → H) :
    ReturnsInHanded {} Try.checked os 3 .any (Rows.journalKeepsSpec.pre6 enc Try.prog Try.f3 Rows.journalKeepsRow.domain false) (Rows.journalKeepsSpec.post enc Try.prog Try.f3 false true false false) := by
  refine returnsInHanded_of_change (C := Try.checked) Try.own started (by kernel_rfl) Try.func3
    (ChangeSpec.witness6 (enc := enc) (C := Try.checked) false ⟨#[], #[.int .i64 0, .slice none 0 0], []⟩ 8 (by kernel_rfl) (by kernel_rfl) (by kernel_rfl) (by kernel_rfl)) ?_
  intro W base args ds gs before hval0 hW _ _
  have hval : ∀ (j : Nat) t v, Try.f3.params[j]? = some t → args[j]? = some v → Value.okWide Try.prog W .any base t v := hval0
  have hW' := hW
  obtain ⟨p, q, hA0, hV, rfl, hfz, hnd⟩ := hW
  have hA1 : DataW.TrodAll enc Try.prog W 0 (fun _ => true) true Try.f3.params.toList args.toList ds p := hA0
  have hA := hA1
  rw [Try.params3] at hA hval
  obtain ⟨v0, v1, d0, d1, p0, p1, rfl, rfl, rfl, h0, h1⟩ := trodAll_two hA
  obtain ⟨rfl, rfl⟩ := trodVars_none hV
  obtain ⟨l0, f0, r0⟩ := open_arg Cr.Try.ok (f := 1) (t := 3) rfl rfl (hval 0 _ v0 rfl rfl) h0
  obtain ⟨l1, f1, r1⟩ := open_arg Cr.Try.ok (f := 5) (t := 22) rfl rfl (hval 1 _ v1 rfl rfl) h1
  obtain ⟨room, rfl, _, hroom⟩ := f0
  have hroom : room ≤ 9223372036854775807 := hroom
  obtain ⟨l, rfl, hl, hN⟩ := Cr.Try.acts_of f1
  have hc := calls_of (Cr.Try.keeps_v room l hl hN hroom emptyS (fun a _ => a = .val (.bool true)) (fun _ => rfl)) Try.func3 rfl (by decide) (Rel.empty W) (va := #[v0, v1])
    ⟨rfl, fun i y hy => by
      match i with
      | 0 => injection hy with hy; subst hy; exact r0
      | 1 => injection hy with hy; subst hy; exact r1
      | _ + 2 => cases hy⟩
  refine hc.mono fun e W' ⟨v, he, a, σ', ha, hv, _, hst⟩ => ?_
  subst ha
  have hvb : v = .bool true := hv.val_inv
  subst hvb
  rw [List.append_nil] at hW'
  exact ⟨_, he, law_post (tb := 4) Try.laidOut (by kernel_rfl) (by kernel_rfl) (by kernel_rfl) rfl rfl hA1 hW' hst.below⟩

theorem keeps_holds : Rows.JournalKeepsSaid :=
  OpenClaim.holds_of_wide 3 Try.f3 rfl rfl rfl rfl rfl rfl rfl ⟨rfl, rfl, rfl, rfl, rfl⟩ rfl rfl rfl rfl rfl (by kernel_rfl) Try.func3 (by kernel_rfl)
    (of_decide_eq_true (by kernel_rfl)) (by unfold Func.isWrapper; first | (rw [if_pos (by decide +kernel)]; kernel_rfl) | (rw [if_neg (by decide +kernel)]; exact ⟨rfl, rfl⟩))
    (fun os started H enc _ => keeps_lifted os started H enc)

#print axioms keeps_holds
end Go.Proofs.Ytepgodnmdcbgeaa

