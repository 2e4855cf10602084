/- Lists of rows compared: slices.Equal, the reference's list; Same. (Printed by smgen.py.) few: a mesh cut short. Euler: of the program and of the reference. A copy of a list: a row of its own. Turned, Moved. The reference: Turned. The mesh of the examples; a mesh's flaw asked. -/
import Derived.Test.YtkhbmendaapojaaGreatDoorPkBa15
import Derived.Test.YtkhbmendaapojaaGreatDoorPkBa12
import Derived.Test.YtkhbmendaapojaaGreatDoorPkBa13
import Derived.Test.YtkhbmendaapojaaGreatDoorPkBa14
set_option linter.unusedSimpArgs false
set_option linter.unusedVariables false
/- Lists of rows compared: slices.Equal, the reference's list; Same. (Printed by smgen.py.) -/
namespace Go.Proofs.YtkhbmendaapojaaGreatDoor
open Go Go.Vx
set_option maxRecDepth 100000
attribute [local irreducible] CallV LoopV CodeV
def diff3 (A B : Nat → Nat → Int) (i : Nat) : Bool := !(A i 0 == B i 0 && (A i 1 == B i 1 && (A i 2 == B i 2 && true)))
def eqRows (na : Nat) (A : Nat → Nat → Int) (nb : Nat) (B : Nat → Nat → Int) : Bool := decide (na = nb) && (first (diff3 A B) 0 na).isNone
theorem rlist_pure (na : Nat) (A : Nat → Nat → Int) (nb : Nat) (B : Nat → Nat → Int) (hn : na < 4611686018427387904) :
    Pure Tryz.prog 50 [rows3 na A, rows3 nb B] (fun o => o = .ret (.bool (eqRows na A nb B))) := by
  refine pure_of Tryz.func50 rfl 100 ?_
  conv => whnf
  refine branchI (fun h1 => ?_) (fun h1 => ?_)
  · conv => whnf
    exact retB (by simp at h1; simp [eqRows]; intro h; exact absurd h (by omega))
  simp at h1
  obtain rfl : na = nb := by omega
  conv => whnf
  refine loop_inv Tryz.eok 80 (fun i : Nat => i ≤ na ∧ first (diff3 A B) 0 na = first (diff3 A B) i (na - i)) (fun i => na - i)
    (fun i => slots [(0, rows3 na A), (1, rows3 na B), (5, i64 i)] 0 26) (fun _ => []) 0 [] ⟨Nat.zero_le _, rfl⟩ (by repeat' constructor) rfl ?_
  rintro i ⟨hi, hf⟩
  conv => whnf
  refine branchI (fun hl => ?_) (fun hl => ?_)
  · simp at hl
    rw [first_step hl] at hf
    conv => whnf
    refine branchT (guardI ⟨by omega, by omega⟩) ?_
    conv => whnf
    refine branchT (guardI ⟨by omega, by omega⟩) ?_
    conv => whnf
    refine branchI (fun h => ?_) (fun h => ?_)
    · have h : diff3 A B i = true := h
      rw [if_pos h] at hf
      conv => whnf
      exact retB (by simp [eqRows, hf])
    have h : diff3 A B i = false := h
    rw [if_neg (by rw [h]; simp)] at hf
    conv => whnf
    refine ⟨rfl, i + 1, [], ⟨hl, hf⟩, by omega, rfl, ?_⟩
    repeat' constructor
    exact w64_nat (by omega)
  simp at hl
  rw [first_end hl] at hf
  conv => whnf
  exact retB (by simp [eqRows, hf])
theorem equal_pure (na : Nat) (A : Nat → Nat → Int) (nb : Nat) (B : Nat → Nat → Int) (hn : na < 4611686018427387904) :
    Pure Tryz.prog 59 [rows3 na A, rows3 nb B] (fun o => o = .ret (.bool (eqRows na A nb B))) := by
  refine pure_of Tryz.func59 rfl 100 ?_
  conv => whnf
  refine branchI (fun h1 => ?_) (fun h1 => ?_)
  · conv => whnf
    exact retB (by simp at h1; simp [eqRows]; intro h; exact absurd h (by omega))
  simp at h1
  obtain rfl : na = nb := by omega
  conv => whnf
  refine loop_inv Tryz.eok 80 (fun i : Nat => i ≤ na ∧ first (diff3 A B) 0 na = first (diff3 A B) i (na - i)) (fun i => na - i)
    (fun i => slots [(0, rows3 na A), (1, rows3 na B), (12, i64 na), (13, i64 i)] 0 26) (fun _ => []) 0 [] ⟨Nat.zero_le _, rfl⟩ (by repeat' constructor) rfl ?_
  rintro i ⟨hi, hf⟩
  conv => whnf
  refine branchI (fun hl => ?_) (fun hl => ?_)
  · simp at hl
    rw [first_step hl] at hf
    conv => whnf
    refine branchT (guardI ⟨by omega, by omega⟩) ?_
    conv => whnf
    refine branchT (guardI ⟨by omega, by omega⟩) ?_
    conv => whnf
    refine branchI (fun h => ?_) (fun h => ?_)
    · have h : diff3 A B i = true := h
      rw [if_pos h] at hf
      conv => whnf
      exact retB (by simp [eqRows, hf])
    have h : diff3 A B i = false := h
    rw [if_neg (by rw [h]; simp)] at hf
    conv => whnf
    refine ⟨rfl, i + 1, [], ⟨hl, hf⟩, by omega, rfl, ?_⟩
    repeat' constructor
    exact w64_nat (by omega)
  simp at hl
  rw [first_end hl] at hf
  conv => whnf
  exact retB (by simp [eqRows, hf])
def sameS (np : Nat) (P : Nat → Nat → Int) (nf : Nat) (F : Nat → Nat → Int) (np' : Nat) (P' : Nat → Nat → Int) (nf' : Nat) (F' : Nat → Nat → Int) : Bool := eqRows np P np' P' && eqRows nf F nf' F'
theorem msame_pure (np : Nat) (P : Nat → Nat → Int) (nf : Nat) (F : Nat → Nat → Int) (np' : Nat) (P' : Nat → Nat → Int) (nf' : Nat) (F' : Nat → Nat → Int) (h1 : np < 4611686018427387904) (h2 : nf < 4611686018427387904) :
    Pure Tryz.prog 34 [meshV np P nf F, meshV np' P' nf' F'] (fun o => o = .ret (.bool (sameS np P nf F np' P' nf' F'))) := by
  refine pure_of Tryz.func34 rfl 100 ?_
  conv => whnf
  first | refine callF1 (equal_pure np P np' P' (by omega)) rfl rfl ?_ | refine ⟨_, _, callD (equal_pure np P np' P' (by omega)) rfl (.inl rfl), ?_⟩
  conv => whnf
  refine branchI (fun h => ?_) (fun h => ?_)
  · have h : eqRows np P np' P' = true := h
    conv => whnf
    first | refine callF1 (equal_pure nf F nf' F' (by omega)) rfl rfl ?_ | refine ⟨_, _, callD (equal_pure nf F nf' F' (by omega)) rfl (.inl rfl), ?_⟩
    conv => whnf
    exact retB (by simp only [sameS, h, Bool.true_and]; rfl)
  · have h : eqRows np P np' P' = false := h
    conv => whnf
    exact retB (by simp only [sameS, h, Bool.false_and])
theorem rsame_pure (np : Nat) (P : Nat → Nat → Int) (nf : Nat) (F : Nat → Nat → Int) (np' : Nat) (P' : Nat → Nat → Int) (nf' : Nat) (F' : Nat → Nat → Int) (h1 : np < 4611686018427387904) (h2 : nf < 4611686018427387904) :
    Pure Tryz.prog 20 [meshV np P nf F, meshV np' P' nf' F'] (fun o => o = .ret (.bool (sameS np P nf F np' P' nf' F'))) := by
  refine pure_of Tryz.func20 rfl 100 ?_
  conv => whnf
  first | refine callF1 (rlist_pure np P np' P' (by omega)) rfl rfl ?_ | refine ⟨_, _, callD (rlist_pure np P np' P' (by omega)) rfl (.inl rfl), ?_⟩
  conv => whnf
  refine branchI (fun h => ?_) (fun h => ?_)
  · have h : eqRows np P np' P' = true := h
    conv => whnf
    first | refine callF1 (rlist_pure nf F nf' F' (by omega)) rfl rfl ?_ | refine ⟨_, _, callD (rlist_pure nf F nf' F' (by omega)) rfl (.inl rfl), ?_⟩
    conv => whnf
    exact retB (by simp only [sameS, h, Bool.true_and]; rfl)
  · have h : eqRows np P np' P' = false := h
    conv => whnf
    exact retB (by simp only [sameS, h, Bool.false_and])
end Go.Proofs.YtkhbmendaapojaaGreatDoor
/- few: a mesh cut short. -/
namespace Go.Proofs.YtkhbmendaapojaaGreatDoor
open Go Go.Vx
set_option maxRecDepth 100000
attribute [local irreducible] CallV LoopV CodeV
def cutN (m n : Nat) : Nat := if m < n then m else n
theorem cutN_eq (m n : Nat) : (if (m : Int) < (n : Int) then (m : Int) else (n : Int)).toNat = cutN m n := by
  unfold cutN; by_cases h : m < n
  · rw [if_pos h, if_pos (by omega)]; rfl
  · rw [if_neg h, if_neg (by omega)]; rfl
theorem few_pure (np : Nat) (P : Nat → Nat → Int) (nf : Nat) (F : Nat → Nat → Int) :
    Pure Tryz.prog 37 [meshV np P nf F] (fun o => o = .ret (meshV (cutN 30 np) P (cutN 30 nf) F)) := by
  refine pure_of Tryz.func37 rfl 100 ?_
  conv => whnf
  refine branchT (by simp; split <;> omega) ?_
  conv => whnf
  refine branchT (by simp; split <;> omega) ?_
  conv => whnf
  refine retV ?_
  show V.agg [V.ro 3 ((if ((30 : Nat) : Int) < (np : Int) then ((30 : Nat) : Int) else (np : Int)).toNat - 0) (fun i => [i64 (P (0 + i) 0), i64 (P (0 + i) 1), i64 (P (0 + i) 2)]),
    V.ro 3 ((if ((30 : Nat) : Int) < (nf : Int) then ((30 : Nat) : Int) else (nf : Int)).toNat - 0) (fun i => [i64 (F (0 + i) 0), i64 (F (0 + i) 1), i64 (F (0 + i) 2)])] = _
  rw [cutN_eq, cutN_eq]
  simp only [Nat.zero_add, Nat.sub_zero]
end Go.Proofs.YtkhbmendaapojaaGreatDoor
/- Euler: of the program and of the reference. -/
namespace Go.Proofs.YtkhbmendaapojaaGreatDoor
open Go Go.Vx
set_option maxRecDepth 100000
attribute [local irreducible] CallV LoopV CodeV
theorem flaw_ok {np : Nat} {P : Nat → Nat → Int} {nf : Nat} {F : Nat → Nat → Int} (h : ¬ 0 < (flawS np P nf F).1) : ¬ 0 < (singleS np P nf F).1 ∧ (∀ k, k < nf → dupF F k (mapN F k) = false) := by
  unfold flawS at h
  split at h
  · rename_i h1; exact absurd h1 h
  rename_i h1
  refine ⟨h1, ?_⟩
  split at h
  · exact absurd (by simp) h
  rename_i h2
  exact fun k hk => first_none h2 k (Nat.zero_le _) (by omega)
theorem putM_len {m : List (List Int × Int)} {k : List Int} {v : Int} (h : hasM m k = false) : (putM m k v).length = m.length + 1 := by
  unfold hasM at h
  split at h
  · cases h
  · rename_i hn
    rw [(putM_none v hn).1]; simp
theorem mapN_len {F : Nat → Nat → Int} : ∀ {n : Nat}, (∀ k, k < n → dupF F k (mapN F k) = false) → (mapN F n).length = 3 * n
  | 0, _ => rfl
  | n + 1, h => by
    have hn := h n (by omega)
    simp only [dupF, Bool.or_eq_false_iff] at hn
    rw [mapN, putF, putM_len hn.2, putM_len hn.1.2, putM_len hn.1.1, mapN_len (fun k hk => h k (by omega))]
    omega
theorem half_eq {x : Int} {n : Nat} (hx : x = (n : Int)) (hn : n < 100000) : w64 (x.tdiv 2) = ((n / 2 : Nat) : Int) := by
  subst hx
  have : ((n : Int).tdiv 2) = ((n / 2 : Nat) : Int) := by rw [Int.tdiv_eq_ediv_of_nonneg (by omega)]; omega
  rw [this]; exact w64_in (by omega)
noncomputable def eulerS (np : Nat) (P : Nat → Nat → Int) (nf : Nat) (F : Nat → Nat → Int) : V :=
  if 0 < (flawS np P nf F).1 then .tup [i64 0, i64 0, i64 350] else .tup [i64 (3 * nf / 2 : Nat), i64 ((np : Int) - (3 * nf / 2 : Nat) + nf), i64 0]
theorem reuler_pure (np : Nat) (P : Nat → Nat → Int) (nf : Nat) (F : Nat → Nat → Int) :
    Pure Tryz.prog 14 [meshV np P nf F] (fun o => o = .ret (eulerS np P nf F)) := by
  refine pure_of Tryz.func14 rfl 200 ?_
  conv => whnf
  refine callF1 (rcheck_pure np P nf F) rfl rfl ?_
  conv => whnf
  refine branchI (fun h => ?_) (fun h => ?_)
  · have h : (!(checkS np P nf F == 0)) = true := h
    conv => whnf
    have hf : 0 < (flawS np P nf F).1 := by
      apply Classical.byContradiction
      intro hc
      rw [checkS, if_neg hc] at h
      cases h
    refine retV ?_
    show V.tup [i64 0, i64 0, i64 (checkS np P nf F)] = _
    rw [eulerS, if_pos hf, checkS, if_pos hf]
  · have h : (!(checkS np P nf F == 0)) = false := h
    have hf : ¬ 0 < (flawS np P nf F).1 := by
      intro hc
      rw [checkS, if_pos hc] at h
      cases h
    obtain ⟨h1, h2⟩ := flaw_ok hf
    obtain ⟨⟨np1, np2⟩, ⟨nf1, nf2⟩, -⟩ := msingle_ok h1
    have a1 : w64 (3 * (nf : Int)) = ((3 * nf : Nat) : Int) := (w64_in (by omega)).trans (by omega)
    have a2 : w64 ((w64 (3 * (nf : Int))).tdiv 2) = ((3 * nf / 2 : Nat) : Int) := half_eq a1 (by omega)
    conv => whnf
    refine retV ?_
    show V.tup [i64 (w64 ((w64 (3 * (nf : Int))).tdiv 2)), i64 (w64 (w64 ((np : Int) - w64 ((w64 (3 * (nf : Int))).tdiv 2)) + nf)), i64 0] = _
    rw [eulerS, if_neg hf, a2, show w64 ((np : Int) - ((3 * nf / 2 : Nat) : Int)) = (np : Int) - ((3 * nf / 2 : Nat) : Int) from w64_in (by omega), show w64 ((np : Int) - ((3 * nf / 2 : Nat) : Int) + nf) = (np : Int) - ((3 * nf / 2 : Nat) : Int) + nf from w64_in (by omega)]
theorem meuler_pure (np : Nat) (P : Nat → Nat → Int) (nf : Nat) (F : Nat → Nat → Int) :
    Pure Tryz.prog 13 [meshV np P nf F] (fun o => o = .ret (eulerS np P nf F)) := by
  refine pure_of Tryz.func13 rfl 200 ?_
  conv => whnf
  refine callS_frame (flaw_call np P nf F) [1] (by repeat' constructor) rfl rfl rfl rfl ?_
  rintro _ _ ⟨rfl, ⟨h1, rfl⟩ | ⟨h0, rfl⟩⟩
  · refine ⟨rfl, rfl, rfl, rfl, ?_⟩
    conv => whnf
    refine branchI (fun h => ?_) (fun h => ?_)
    · have h : decide (0 < (flawS np P nf F).1) = true := h
      conv => whnf
      refine retV ?_
      show V.tup [i64 0, i64 0, i64 350] = _
      rw [eulerS, if_pos (of_decide_eq_true h)]
    · have h : decide (0 < (flawS np P nf F).1) = false := h
      exact absurd h1 (of_decide_eq_false h)
  · have hf : ¬ 0 < (flawS np P nf F).1 := by omega
    refine ⟨rfl, rfl, rfl, rfl, ?_⟩
    conv => whnf
    refine branchI (fun h => ?_) (fun h => ?_)
    · have h : decide (0 < (flawS np P nf F).1) = true := h
      exact absurd (of_decide_eq_true h) hf
    obtain ⟨h1, h2⟩ := flaw_ok hf
    obtain ⟨⟨np1, np2⟩, ⟨nf1, nf2⟩, -⟩ := msingle_ok h1
    have a1 : (((mapN F nf).length : Nat) : Int) = ((3 * nf : Nat) : Int) := by rw [mapN_len h2]
    have a2 : w64 ((((mapN F nf).length : Nat) : Int).tdiv 2) = ((3 * nf / 2 : Nat) : Int) := half_eq a1 (by omega)
    conv => whnf
    refine retV ?_
    show V.tup [i64 (w64 ((((mapN F nf).length : Nat) : Int).tdiv 2)), i64 (w64 (w64 ((np : Int) - w64 ((((mapN F nf).length : Nat) : Int).tdiv 2)) + nf)), i64 0] = _
    rw [eulerS, if_neg hf, a2, show w64 ((np : Int) - ((3 * nf / 2 : Nat) : Int)) = (np : Int) - ((3 * nf / 2 : Nat) : Int) from w64_in (by omega), show w64 ((np : Int) - ((3 * nf / 2 : Nat) : Int) + nf) = (np : Int) - ((3 * nf / 2 : Nat) : Int) + nf from w64_in (by omega)]
end Go.Proofs.YtkhbmendaapojaaGreatDoor
/- A copy of a list: a row of its own. Turned, Moved. -/
namespace Go.Proofs.YtkhbmendaapojaaGreatDoor
open Go Go.Vx
set_option maxRecDepth 100000
attribute [local irreducible] CallV LoopV CodeV
/-- The integers of a list of triples, cell by cell. -/
abbrev clI (n : Nat) (A : Nat → Nat → Int) : Nat → Nat → Int := fun i c => cInt (nthV [i64 (A i 0), i64 (A i 1), i64 (A i 2)] c)
abbrev clB (n : Nat) (A : Nat → Nat → Int) : Nat → Nat → Bool := fun i c => cBool (nthV [i64 (A i 0), i64 (A i 1), i64 (A i 2)] c)
abbrev clS (n : Nat) (A : Nat → Nat → Int) : Nat → Nat → List UInt8 := fun i c => cStr (nthV [i64 (A i 0), i64 (A i 1), i64 (A i 2)] c)
theorem rows3_flat (n : Nat) (A : Nat → Nat → Int) : ∀ ρ I xs, Rels ρ I [rows3 n A] xs → Rels [] I [rows3 n A] xs := by
  intro ρ I xs h
  cases h with | cons _ _ x xs h1 h2 =>
  cases h2
  refine .cons _ _ _ _ ?_ .nil
  cases h1 with
  | roNil => exact .roNil _ _
  | ro _ _ _ b off cap arr el fz hI hc hs hr => exact .ro _ _ _ b off cap arr el fz hI hc hs hr
theorem clone_pure (n : Nat) (A : Nat → Nat → Int) (h0 : 0 < n) (hn : n < 100000) : CallFV Tryz.prog 49 [rows3 n A] (.arr 41 [.int .i64, .int .i64, .int .i64] (clI n A) (clB n A) (clS n A)) n 3 (fun t => .sl t 3 0 n n) := by
  refine callF_of_S h0 (rows3_flat n A) ?_
  refine callS_of_code (E := Tryz.E) Tryz.tok Tryz.func49 rfl ((good Tryz.eok 100).2.2.1 none _ _ _ _ _ ?_)
  conv => whnf
  rintro i (rfl | ⟨rfl, h⟩)
  · conv => whnf
    refine ⟨fun i _ => rfl, ?_⟩
    conv => whnf
    refine branchT (show fits 24 (0 + n) = true by unfold fits; simp; omega) ?_
    conv => whnf
    refine ⟨1, ?_, rfl⟩
    show Out.ret (V.sl 1 3 0 (0 + n) (0 + n)) = Out.ret (V.sl 1 3 0 n n)
    rw [Nat.zero_add]
  · omega
def turnF (F : Nat → Nat → Int) (i c : Nat) : Int := match c with
  | 0 => F i 0
  | 1 => F i 2
  | _ => F i 1
abbrev noMesh : V := .agg [.nilSl, .nilSl]
noncomputable def turnedS (np : Nat) (P : Nat → Nat → Int) (nf : Nat) (F : Nat → Nat → Int) : V := if 0 < (flawS np P nf F).1 then .tup [noMesh, i64 350] else .tup [meshV np P nf (turnF F), i64 0]
theorem turned_pure (np : Nat) (P : Nat → Nat → Int) (nf : Nat) (F : Nat → Nat → Int) :
    Pure Tryz.prog 18 [meshV np P nf F] (fun o => o = .ret (turnedS np P nf F)) := by
  refine Pure.retSub (pure_of Tryz.func18 rfl 300 ?_)
  conv => whnf
  refine callF1 (mcheck_pure np P nf F) rfl rfl ?_
  by_cases hf : 0 < (flawS np P nf F).1
  · rw [checkS, if_pos hf]
    conv => whnf
    refine RetSub.eq ?_
    rw [turnedS, if_pos hf]
    rfl
  · rw [checkS, if_neg hf]
    obtain ⟨h1, h2⟩ := flaw_ok hf
    obtain ⟨⟨np1, np2⟩, ⟨nf1, nf2⟩, -⟩ := msingle_ok h1
    conv => whnf
    refine ⟨_, _, _, _, clone_pure np P (by omega) (by omega), ?_⟩
    conv => whnf
    refine ⟨_, _, _, _, clone_pure nf F (by omega) (by omega), ?_⟩
    conv => whnf
    refine loop_inv Tryz.eok 280 (fun s : Nat × (Nat → Nat → Int) => s.1 ≤ nf ∧ ∀ i, (i < s.1 → s.2 i 0 = F i 0 ∧ s.2 i 1 = F i 2 ∧ s.2 i 2 = F i 1) ∧ (s.1 ≤ i → s.2 i 0 = F i 0 ∧ s.2 i 1 = F i 1 ∧ s.2 i 2 = F i 2)) (fun s => nf - s.1)
      (fun s => slots [(1, .ptr 0 0 0), (2, .ptr 1 0 0), (5, .ptr 9 0 0), (23, i64 nf), (24, i64 s.1)] 0 47)
      (fun s => [.fix 24 [rows3 np P, rows3 nf F], .fix 24 [.nilSl, .nilSl], .dead, .dead, .arr 41 [.int .i64, .int .i64, .int .i64] (clI np P) (clB np P) (clS np P), .dead, .dead, .arr 41 [.int .i64, .int .i64, .int .i64] s.2 (clB nf F) (clS nf F), .dead, .fix 24 [.sl 4 3 0 np np, .sl 7 3 0 nf nf]])
      (0, clI nf F) [] ⟨Nat.zero_le _, fun i => ⟨fun h => absurd h (Nat.not_lt_zero i), fun _ => ⟨rfl, rfl, rfl⟩⟩⟩ ?_ rfl ?_
    · repeat' constructor
    rintro ⟨k, gi⟩ ⟨hk, hg⟩
    have hk : k ≤ nf := hk
    have hg : ∀ i, (i < k → gi i 0 = F i 0 ∧ gi i 1 = F i 2 ∧ gi i 2 = F i 1) ∧ (k ≤ i → gi i 0 = F i 0 ∧ gi i 1 = F i 1 ∧ gi i 2 = F i 2) := hg
    conv => whnf
    refine branchI (fun h3 => ?_) (fun h3 => ?_)
    · have h3 : decide ((k : Int) < (nf : Int)) = true := h3
      have h3' := of_decide_eq_true h3
      conv => whnf
      refine branchT (guardI ⟨by show (0 : Int) ≤ (k : Int); omega, by show (k : Int) < (nf : Int); omega⟩) ?_
      conv => whnf
      obtain ⟨g0, g1, g2⟩ := (hg k).2 (Nat.le_refl k)
      refine ⟨rfl, ⟨k + 1, up2 (up2 gi (0 + k) 1 (gi (0 + k) 2)) (0 + k) 2 (gi (0 + k) 1)⟩, [], ?inv1, ?mu1, rfl, ?ls1⟩
      case ls1 =>
        repeat' constructor
        all_goals first | exact rfl | exact w64_nat (by omega) | skip
      case mu1 => show nf - (k + 1) < nf - k; omega
      case inv1 =>
        refine ⟨by show k + 1 ≤ nf; omega, fun i => ?_⟩
        show (i < k + 1 → up2 (up2 gi (0 + k) 1 (gi (0 + k) 2)) (0 + k) 2 (gi (0 + k) 1) i 0 = F i 0 ∧ up2 (up2 gi (0 + k) 1 (gi (0 + k) 2)) (0 + k) 2 (gi (0 + k) 1) i 1 = F i 2 ∧ up2 (up2 gi (0 + k) 1 (gi (0 + k) 2)) (0 + k) 2 (gi (0 + k) 1) i 2 = F i 1) ∧ (k + 1 ≤ i → up2 (up2 gi (0 + k) 1 (gi (0 + k) 2)) (0 + k) 2 (gi (0 + k) 1) i 0 = F i 0 ∧ up2 (up2 gi (0 + k) 1 (gi (0 + k) 2)) (0 + k) 2 (gi (0 + k) 1) i 1 = F i 1 ∧ up2 (up2 gi (0 + k) 1 (gi (0 + k) 2)) (0 + k) 2 (gi (0 + k) 1) i 2 = F i 2)
        rw [Nat.zero_add]
        by_cases hik : i = k
        · subst hik
          exact ⟨fun _ => by simp [up2, g0, g1, g2], fun h => absurd h (by omega)⟩
        · obtain ⟨q1, q2⟩ := hg i
          simp only [up2, hik, false_and, if_false]
          exact ⟨fun h => q1 (by omega), fun h => q2 (by omega)⟩
    · have h3 : decide ((k : Int) < (nf : Int)) = false := h3
      have h3' := of_decide_eq_false h3
      obtain rfl : k = nf := by omega
      conv => whnf
      refine RetSub.of ?_
      rw [turnedS, if_neg hf]
      refine .tup (.cons (.agg (.cons ?_ (.cons ?_ .nil))) (.cons (.refl _) .nil))
      · exact SubV.ro fun i _ => by
          show [i64 (P (0 + i) 0), i64 (P (0 + i) 1), i64 (P (0 + i) 2)] = _
          rw [Nat.zero_add]
      · exact SubV.ro fun i hi => by
          obtain ⟨q1, q2, q3⟩ := (hg i).1 hi
          show [i64 (gi (0 + i) 0), i64 (gi (0 + i) 1), i64 (gi (0 + i) 2)] = [i64 (F i 0), i64 (F i 2), i64 (F i 1)]
          rw [Nat.zero_add, q1, q2, q3]
end Go.Proofs.YtkhbmendaapojaaGreatDoor
/- The reference: Turned. -/
namespace Go.Proofs.YtkhbmendaapojaaGreatDoor
open Go Go.Vx
set_option maxRecDepth 100000
attribute [local irreducible] CallV LoopV CodeV
/-- A row of triples, one more behind it. -/
theorem push3 {gi N A : Nat → Nat → Int} {k : Nat} (hg : ∀ i, i < k → gi i 0 = A i 0 ∧ gi i 1 = A i 1 ∧ gi i 2 = A i 2) (h0 : N 0 0 = A k 0) (h1 : N 0 1 = A k 1) (h2 : N 0 2 = A k 2) :
    ∀ i, i < k + 1 → appF k (fun i => gi (0 + i)) N i 0 = A i 0 ∧ appF k (fun i => gi (0 + i)) N i 1 = A i 1 ∧ appF k (fun i => gi (0 + i)) N i 2 = A i 2 := by
  intro i hi
  by_cases h : i < k
  · rw [appF_lt h, Nat.zero_add]; exact hg i h
  · obtain rfl : i = k := by omega
    rw [appF_ge (Nat.le_refl i), Nat.sub_self]; exact ⟨h0, h1, h2⟩
theorem rturned_pure (np : Nat) (P : Nat → Nat → Int) (nf : Nat) (F : Nat → Nat → Int) :
    Pure Tryz.prog 19 [meshV np P nf F] (fun o => o = .ret (turnedS np P nf F)) := by
  refine Pure.retSub (pure_of Tryz.func19 rfl 300 ?_)
  conv => whnf
  refine callF1 (rcheck_pure np P nf F) rfl rfl ?_
  by_cases hf : 0 < (flawS np P nf F).1
  · rw [checkS, if_pos hf]
    conv => whnf
    refine RetSub.eq ?_
    rw [turnedS, if_pos hf]
    rfl
  · rw [checkS, if_neg hf]
    obtain ⟨h1, h2⟩ := flaw_ok hf
    obtain ⟨⟨np1, np2⟩, ⟨nf1, nf2⟩, -⟩ := msingle_ok h1
    conv => whnf
    refine ⟨fun i _ => rfl, ?_⟩
    conv => whnf
    refine branchT (show fits 24 (0 + np) = true by unfold fits; simp; omega) ?_
    conv => whnf
    refine loop_inv Tryz.eok 280 (fun s : Nat × (Nat → Nat → Int) × (Nat → Nat → Bool) × (Nat → Nat → List UInt8) => s.1 ≤ nf ∧ ∀ i, i < s.1 → s.2.1 i 0 = turnF F i 0 ∧ s.2.1 i 1 = turnF F i 1 ∧ s.2.1 i 2 = turnF F i 2) (fun s => nf - s.1)
      (fun s => slots [(1, .ptr 0 0 0), (2, .ptr 1 0 0), (5, .ptr 4 0 0), (6, i64 s.1)] 0 50)
      (fun s => [.fix 24 [rows3 np P, rows3 nf F], .fix 24 [.nilSl, .nilSl], .dead, .arr 41 [.int .i64, .int .i64, .int .i64] (clI np P) (clB np P) (clS np P), .fix 24 [.sl 3 3 0 np np, .sl 5 3 0 s.1 s.1], .arr 41 [.int .i64, .int .i64, .int .i64] s.2.1 s.2.2.1 s.2.2.2])
      (0, fun _ _ => 0, fun _ _ => false, fun _ _ => []) [1000000] ⟨Nat.zero_le _, fun i h => absurd h (Nat.not_lt_zero i)⟩ ?_ rfl ?_
    · repeat' constructor
      · exact Nat.zero_add np
      · exact Nat.le_of_eq (Nat.zero_add np).symm
    rintro ⟨k, gi, gb, gs⟩ ⟨hk, hg⟩
    have hk : k ≤ nf := hk
    have hg : ∀ i, i < k → gi i 0 = turnF F i 0 ∧ gi i 1 = turnF F i 1 ∧ gi i 2 = turnF F i 2 := hg
    conv => whnf
    refine branchI (fun h3 => ?_) (fun h3 => ?_)
    · have h3 : decide ((k : Int) < (nf : Int)) = true := h3
      have h3' := of_decide_eq_true h3
      conv => whnf
      have hin : (decide (0 ≤ (k : Int)) && decide ((k : Int) < (nf : Int))) = true := guardI ⟨by omega, by omega⟩
      refine branchT hin ?_
      conv => whnf
      refine branchT hin ?_
      conv => whnf
      refine branchT hin ?_
      conv => whnf
      refine branchT (show fits 24 (k + 1) = true by unfold fits; simp; omega) ?_
      conv => whnf
      refine ⟨rfl, ⟨k + 1, ?gi1, ?gb1, ?gs1⟩, [28], ?inv1, ?mu1, rfl, ?ls1⟩
      case ls1 =>
        repeat' constructor
        all_goals first | exact rfl | exact w64_nat (by omega) | skip
        all_goals trace_state
      case mu1 => show nf - (k + 1) < nf - k; omega
      case inv1 =>
        exact ⟨by show k + 1 ≤ nf; omega, push3 hg rfl rfl rfl⟩
    · have h3 : decide ((k : Int) < (nf : Int)) = false := h3
      have h3' := of_decide_eq_false h3
      obtain rfl : k = nf := by omega
      conv => whnf
      refine RetSub.of ?_
      rw [turnedS, if_neg hf]
      refine .tup (.cons (.agg (.cons ?_ (.cons ?_ .nil))) (.cons (.refl _) .nil))
      · exact SubV.ro fun i _ => by
          show [i64 (P (0 + i) 0), i64 (P (0 + i) 1), i64 (P (0 + i) 2)] = _
          rw [Nat.zero_add]
      · exact SubV.ro fun i hi => by
          obtain ⟨q1, q2, q3⟩ := hg i hi
          show [i64 (gi (0 + i) 0), i64 (gi (0 + i) 1), i64 (gi (0 + i) 2)] = [i64 (turnF F i 0), i64 (turnF F i 1), i64 (turnF F i 2)]
          rw [Nat.zero_add, q1, q2, q3]
end Go.Proofs.YtkhbmendaapojaaGreatDoor
/- The mesh of the examples; a mesh's flaw asked. -/
namespace Go.Proofs.YtkhbmendaapojaaGreatDoor
open Go Go.Vx
set_option maxRecDepth 100000
attribute [local irreducible] CallV LoopV CodeV
/-- The environment in which no body is walked through at a call. -/
noncomputable def Tryz.E0 : Env := Tryz.envOf [] []
theorem Tryz.e0ok : EnvOk Tryz.E0 := Tryz.envOk [] [] trivial
theorem pure_of0 {f : Nat} {fn : Func} {c : Code} (hf : Tryz.prog.funcs[f]? = some fn) (hb : fn.body = some c) {Vs : List V} {R : Out → Prop} (n : Nat)
    (h : vc Tryz.E0 none n c (padTo Vs fn.ntmps) [] [] (finK Tryz.tab fn (fun o L => R (sealO L o)))) : Pure Tryz.prog f Vs R :=
  Pure.of_callS (callS_of_code (E := Tryz.E0) Tryz.tok hf hb ((good Tryz.e0ok n).2.2.1 none c _ _ _ _ h))
def teP (i c : Nat) : Int := match i, c with
  | 1, 0 => 1000
  | 2, 1 => 1000
  | 3, 2 => 1000
  | _, _ => 0
def teF (i c : Nat) : Int := match i, c with
  | 0, 0 => 0 | 0, 1 => 2 | 0, 2 => 1
  | 1, 0 => 0 | 1, 1 => 1 | 1, 2 => 3
  | 2, 0 => 0 | 2, 1 => 3 | 2, 2 => 2
  | 3, 0 => 1 | 3, 1 => 2 | 3, 2 => 3
  | _, _ => 0
abbrev sh3 : List Sh := [.int .i64, .int .i64, .int .i64]
theorem tetra_call : CallS Tryz.prog 27 [] [] (fun o L => ∃ gi hi gb hb gs hs, o = .ret (.agg [.sl 0 3 0 4 4, .sl 1 3 0 4 4]) ∧ L = [.arr 41 sh3 gi gb gs, .arr 41 sh3 hi hb hs] ∧
    (∀ i c, i < 4 → c < 3 → gi i c = teP i c) ∧ ∀ i c, i < 4 → c < 3 → hi i c = teF i c) := by
  refine callS_tidy rfl (callS_of_code (E := Tryz.E0) Tryz.tok Tryz.func27 rfl ((good Tryz.e0ok 100).2.2.1 none _ _ _ _ _ ?_))
  conv => whnf
  refine ⟨_, .agg [.sl 0 3 0 4 4, .sl 1 3 0 4 4], [.arr 41 sh3 ?gi ?gb ?gs, .arr 41 sh3 ?hi ?hb ?hs], [1, 2], rfl, rfl, ?le, ⟨_, _, _, _, _, _, rfl, rfl, ?p, ?f⟩⟩
  case le =>
    repeat' constructor
    all_goals exact rfl
  case p =>
    intro i c hi hc
    have hi : i = 0 ∨ i = 1 ∨ i = 2 ∨ i = 3 := by omega
    have hc : c = 0 ∨ c = 1 ∨ c = 2 := by omega
    rcases hi with rfl | rfl | rfl | rfl <;> rcases hc with rfl | rfl | rfl <;> rfl
  case f =>
    intro i c hi hc
    have hi : i = 0 ∨ i = 1 ∨ i = 2 ∨ i = 3 := by omega
    have hc : c = 0 ∨ c = 1 ∨ c = 2 := by omega
    rcases hi with rfl | rfl | rfl | rfl <;> rcases hc with rfl | rfl | rfl <;> rfl
theorem callS_mono {P : Program} {f : Nat} {Vs : List V} {L : List Blk} {K K' : Out → List Blk → Prop} (h : CallS P f Vs L K) (hk : ∀ o L', K o L' → K' o L') : CallS P f Vs L K' := fun ρ I w xs hM hx =>
  (h ρ I w xs hM hx).mono fun _ _ ⟨o, ρ', I', L', h1, h2⟩ => ⟨o, ρ', I', L', hk o L' h1, h2⟩
abbrev meshW (np : Nat) (P : Nat → Nat → Int) (nf : Nat) (F : Nat → Nat → Int) : V := .agg [rows3 np P, rows3 nf F]
theorem subRow {n : Nat} {gi : Nat → Nat → Int} {A : Nat → Nat → Int} (h : ∀ i c, i < n → c < 3 → gi i c = A i c) : SubV (.ro 3 n (fun i => [i64 (gi (0 + i) 0), i64 (gi (0 + i) 1), i64 (gi (0 + i) 2)])) (rows3 n A) := SubV.ro fun i hi => by
  show [i64 (gi (0 + i) 0), i64 (gi (0 + i) 1), i64 (gi (0 + i) 2)] = [i64 (A i 0), i64 (A i 1), i64 (A i 2)]
  rw [Nat.zero_add, h i 0 hi (by omega), h i 1 hi (by omega), h i 2 hi (by omega)]
theorem tetra_pure : Pure Tryz.prog 27 [] (fun o => o = .ret (meshW 4 teP 4 teF)) := by
  refine Pure.retSub (Pure.of_callS (callS_mono tetra_call ?_))
  rintro o L ⟨gi, hi, gb, hb, gs, hs, rfl, rfl, h1, h2⟩
  exact RetSub.of (.agg (.cons (subRow h1) (.cons (subRow h2) .nil)))
end Go.Proofs.YtkhbmendaapojaaGreatDoor
