/- The first flaw of a mesh; the edges' map. The reference: far, place, Normal. (Printed by rpgen.py.) The reference: shapes. (Printed by rsgen.py.) Plain laws: places of edges, and the map; the faces that a list reaches. -/
import Derived.Test.YtkhbmendaapojaaGreatDoorPkTe13
set_option linter.unusedSimpArgs false
set_option linter.unusedVariables false
/- The first flaw of a mesh; the edges' map. -/
namespace Go.Proofs.YtkhbmendaapojaaGreatDoor
open Go Go.Vx
set_option maxRecDepth 100000
attribute [local irreducible] CallV LoopV CodeV
def usedN (F : Nat → Nat → Int) : Nat → Nat → Nat → Bool
  | 0 => fun _ _ => false
  | k + 1 => up2 (up2 (up2 (usedN F k) (F k 0).toNat 0 true) (F k 1).toNat 0 true) (F k 2).toNat 0 true
open Classical in
noncomputable def reachN (F : Nat → Nat → Int) (nf : Nat) (f : Nat) : Bool := decide (Reach (nb F (mapN F nf)) f)
noncomputable def flawS (np : Nat) (P : Nat → Nat → Int) (nf : Nat) (F : Nat → Nat → Int) : Int × Int :=
  if 0 < (singleS np P nf F).1 then singleS np P nf F else
  match first (fun i => dupF F i (mapN F i)) 0 nf with
  | some i => (5, i)
  | none => match first (fun i => openF F (mapN F nf) i) 0 nf with
    | some i => (6, i)
    | none => match first (fun i => false == usedN F nf i 0) 0 np with
      | some i => (7, i)
      | none => match first (fun i => false == reachN F nf i) 0 nf with
        | some i => (8, i)
        | none => (0, 0)
abbrev edgeB (m : List (List Int × Int)) : Blk := .map true [.i64, .i64] (.int .i64) m
abbrev FlK (np : Nat) (P : Nat → Nat → Int) (nf : Nat) (F : Nat → Nat → Int) : Out → List Blk → Prop :=
  fun o L => o = .ret (.tup [i64 (flawS np P nf F).1, i64 (flawS np P nf F).2]) ∧
    ((0 < (flawS np P nf F).1 ∧ L = [bodyB np P nf F .any]) ∨ ((flawS np P nf F).1 = 0 ∧ L = [bodyB np P nf F (.map 1), edgeB (mapN F nf)]))
theorem fl_end {np : Nat} {P : Nat → Nat → Int} {nf : Nat} {F : Nat → Nat → Int} {a b : Int} {e : V} {L : List Blk} (h : flawS np P nf F = (a, b)) (hL : Nat.ble (len L) 899998 = true) (ha : 0 < a) :
    ∃ (v v' : V) (M : List Blk) (xs : List Nat), Out.ret (.tup [i64 a, i64 b]) = .ret v ∧ Nat.ble (len (bodyB np P nf F e :: L)) 900000 = true ∧ leS 1 [v] (bodyB np P nf F e :: L) [v'] M xs ∧ FlK np P nf F (.ret v') M := by
  refine ⟨_, .tup [i64 a, i64 b], [bodyB np P nf F .any], [], rfl, ?_, ?_, by rw [h], .inl ⟨by rw [h]; exact ha, rfl⟩⟩
  · have := Nat.le_of_ble_eq_true hL
    exact Nat.ble_eq.mpr (by simp only [len]; omega)
  · repeat' constructor
theorem fl_end0 {np : Nat} {P : Nat → Nat → Int} {nf : Nat} {F : Nat → Nat → Int} {b1 b2 b3 : Blk} {L : List Blk} (h : flawS np P nf F = (0, 0)) (hL : Nat.ble (len L) 899990 = true) :
    ∃ (v v' : V) (M : List Blk) (xs : List Nat), Out.ret (.tup [i64 0, i64 0]) = .ret v ∧ Nat.ble (len (bodyB np P nf F (.map 4) :: b1 :: b2 :: b3 :: edgeB (mapN F nf) :: L)) 900000 = true ∧
      leS 1 [v] (bodyB np P nf F (.map 4) :: b1 :: b2 :: b3 :: edgeB (mapN F nf) :: L) [v'] M xs ∧ FlK np P nf F (.ret v') M := by
  refine ⟨_, .tup [i64 0, i64 0], [bodyB np P nf F (.map 1), edgeB (mapN F nf)], [4], rfl, ?_, ?_, by rw [h], .inr ⟨by rw [h], rfl⟩⟩
  · have := Nat.le_of_ble_eq_true hL
    exact Nat.ble_eq.mpr (by simp only [len]; omega)
  · repeat' constructor
theorem msingle_ok {np : Nat} {P : Nat → Nat → Int} {nf : Nat} {F : Nat → Nat → Int} (h : ¬ 0 < (singleS np P nf F).1) :
    (4 ≤ np ∧ np ≤ 300) ∧ (4 ≤ nf ∧ nf ≤ 600) ∧ (∀ i, i < np → far3 (P i 0) (P i 1) (P i 2) = false) ∧ (∀ k, k < nf → badF np (F k 0) (F k 1) (F k 2) = false) ∧ (∀ k, k < nf → flatF P (F k 0) (F k 1) (F k 2) = false) := by
  unfold singleS at h
  split at h
  · exact absurd (by simp) h
  rename_i h1
  split at h
  · exact absurd (by simp) h
  rename_i h2
  split at h
  · exact absurd (by simp) h
  rename_i h3
  split at h
  · exact absurd (by simp) h
  rename_i h4
  split at h
  · exact absurd (by simp) h
  rename_i h5
  exact ⟨by omega, by omega, fun i hi => first_none h3 i (Nat.zero_le _) (by omega), fun i hi => first_none h4 i (Nat.zero_le _) (by omega), fun i hi => first_none h5 i (Nat.zero_le _) (by omega)⟩
theorem index_pure0 (n : Nat) (g : Nat → Bool) (v : Bool) (hn : n < 4611686018427387904) : Pure Tryz.prog 64 [rowB n (fun i => g (0 + i)), .bool v] (fun o => o = .ret (i64 (placeO (first (fun i => v == g i) 0 n)))) := by
  simp only [Nat.zero_add]
  exact index_pure n g v hn
theorem placeO_neg {o : Option Nat} (h : decide (0 ≤ placeO o) = false) : o = none := by
  cases o with
  | none => rfl
  | some i => exact absurd h (by simp [placeO])
theorem placeO_pos {o : Option Nat} (h : decide (0 ≤ placeO o) = true) : ∃ i : Nat, o = some i ∧ placeO o = i := by
  cases o with
  | none => exact absurd h (by simp [placeO])
  | some i => exact ⟨i, rfl, rfl⟩
abbrev flM (np : Nat) (P : Nat → Nat → Int) (nf : Nat) (F : Nat → Nat → Int) (m : List (List Int × Int)) : List Blk :=
  [bodyB np P nf F (.map 4), .fix 72 [.ptr 0 0 0], .fix 3 [i64 0], .fix 3 [i64 0], edgeB m]
structure DS where
  n : Nat
  gi : Nat → Nat → Int
  gb : Nat → Nat → Bool
  gs : Nat → Nat → List UInt8
  R : Nat → Nat → Bool
theorem fits8 {n : Nat} (h : n ≤ 100000) : fits 8 n = true := by unfold fits; simp; omega
abbrev S1 (n0 : Nat) (f : Nat → Nat → Int) (g : Int) : Nat → Nat → Int := appF n0 (fun i => f (0 + i)) (fun i c => cInt (nthV [i64 g] ((0 + i) * 1 + c)))
theorem pushed_S1 {R : Nat → Nat → Bool} {l : List Int} {m n0 : Nat} {gi : Nat → Nat → Int} {g g' : Int} {n' : Nat} {s' : Nat → Nat → Int} (h : n0 = m) (hg : g = g') (hR : R g'.toNat 0 = false)
    (rest : Pushed R l (m + 1) (S1 n0 gi g) n' s') : Pushed R (g' :: l) m gi n' s' := by
  subst h; subst hg
  refine .push hR (fun i hi => ?_) ?_ rest
  · show appF n0 (fun i => gi (0 + i)) _ i 0 = _
    rw [appF_lt hi, Nat.zero_add]
  · show appF n0 (fun i => gi (0 + i)) _ n0 0 = _
    have : Nat.blt n0 n0 = false := by
      cases h : Nat.blt n0 n0 with
      | false => rfl
      | true => exact absurd (Nat.le_of_ble_eq_true h) (by omega)
    simp only [appF, this, Nat.sub_self]
    rfl
theorem dfs_leaf {N : Nat → List Int} {nf : Nat} {R : Nat → Nat → Bool} {m : Nat} {gi : Nat → Nat → Int} {T : DS → List V} {M : DS → List Blk} {tm' : List V} {L' : List Blk} {n0 : Nat}
    (hI : DInv N nf R (m + 1) gi) (hb : 4 * cntN R nf + (m + 1) ≤ 4 * nf + 1) (hN : ∀ f, f < nf → ∀ g ∈ N f, 0 ≤ g ∧ g < nf) (h3 : ∀ f, (N f).length = 3)
    (n' : Nat) (n2 : Nat) (s' : Nat → Nat → Int) (gb : Nat → Nat → Bool) (gs : Nat → Nat → List UInt8) (R2 : Nat → Nat → Bool) (xs : List Nat) (hn : n2 = n') (hR : R2 = up2 R (gi m 0).toNat 0 true)
    (hp : Pushed (up2 R (gi m 0).toNat 0 true) (N (gi m 0).toNat) m gi n' s') (hbig : Nat.ble (len L') 900000 = true)
    (hle : leS n0 tm' L' (T ⟨n2, s', gb, gs, R2⟩) (M ⟨n2, s', gb, gs, R2⟩) xs) :
    ([] : List DV) = [] ∧ ∃ s' xs, (DInv N nf s'.R s'.n s'.gi ∧ 4 * cntN s'.R nf + s'.n ≤ 4 * nf + 1) ∧ 4 * cntN s'.R nf + s'.n < 4 * cntN R nf + (m + 1) ∧ Nat.ble (len L') 900000 = true ∧ leS n0 tm' L' (T s') (M s') xs := by
  subst hn
  subst hR
  obtain ⟨i1, i2⟩ := hI.step hN h3 hp
  exact ⟨rfl, ⟨n2, s', gb, gs, _⟩, xs, ⟨i1, by show 4 * cntN (up2 R _ 0 true) nf + n2 ≤ _; omega⟩, i2, hbig, hle⟩
set_option maxHeartbeats 8000000 in
theorem flaw_call (np : Nat) (P : Nat → Nat → Int) (nf : Nat) (F : Nat → Nat → Int) :
    CallS Tryz.prog 38 [.ptr 0 0 0] [bodyB np P nf F .nilMap] (FlK np P nf F) := by
  refine callS_tidy rfl (callS_of_code (E := Tryz.E) Tryz.tok Tryz.func38 rfl ((good Tryz.eok 300).2.2.1 none _ _ _ _ _ ?_))
  conv => whnf
  refine callS_frame (single_call np P nf F) [0] (by repeat' constructor) rfl rfl rfl rfl ?_
  rintro _ _ ⟨rfl, rfl⟩
  refine ⟨rfl, rfl, rfl, rfl, ?_⟩
  conv => whnf
  refine branchI (fun h1 => ?_) (fun h1 => ?_)
  · have h1 : decide (0 < (singleS np P nf F).1) = true := h1
    conv => whnf
    exact fl_end (by rw [flawS, if_pos (of_decide_eq_true h1)]) rfl (of_decide_eq_true h1)
  have h1 : decide (0 < (singleS np P nf F).1) = false := h1
  have h1 := of_decide_eq_false h1
  obtain ⟨⟨np1, np2⟩, ⟨nf1, nf2⟩, -, hbad, -⟩ := msingle_ok h1
  have hS : flawS np P nf F = (match first (fun i => dupF F i (mapN F i)) 0 nf with
    | some i => (5, (i : Int))
    | none => match first (fun i => openF F (mapN F nf) i) 0 nf with
      | some i => (6, (i : Int))
      | none => match first (fun i => false == usedN F nf i 0) 0 np with
        | some i => (7, (i : Int))
        | none => match first (fun i => false == reachN F nf i) 0 nf with
          | some i => (8, (i : Int))
          | none => (0, 0)) := by rw [flawS, if_neg h1]
  conv => whnf
  refine loop_inv Tryz.eok 250 (fun i : Nat => i ≤ nf ∧ first (fun i => dupF F i (mapN F i)) 0 nf = first (fun i => dupF F i (mapN F i)) i (nf - i)) (fun i => nf - i)
    (fun i => slots [(0, .ptr 0 0 0), (1, .ptr 1 0 0), (2, .ptr 2 0 0), (3, .ptr 3 0 0), (41, rows3 nf F), (42, i64 nf), (43, i64 i)] 0 176) (fun i => flM np P nf F (mapN F i)) 0 [] ⟨Nat.zero_le _, rfl⟩ (by repeat' constructor) rfl ?_
  rintro k ⟨hk, hfk⟩
  conv => whnf
  refine branchI (fun hl => ?_) (fun hl => ?_)
  · simp at hl
    rw [first_step hl] at hfk
    conv => whnf
    refine branchT (by simp; omega) ?_
    conv => whnf
    refine loop_unroll Tryz.eok 100 5 ?_
    have dup : dupF F k (mapN F k) = true → flawS np P nf F = (5, (k : Int)) := fun hb => by rw [if_pos hb] at hfk; rw [hS, hfk]
    conv => whnf
    refine branchI (fun d1 => ?_) (fun d1 => ?_)
    · have d1 : hasM (mapN F k) [F k 0, F k 1] = true := d1
      conv => whnf
      exact fl_end (dup (by simp only [dupF, d1, Bool.true_or])) rfl (by decide)
    have d1 : hasM (mapN F k) [F k 0, F k 1] = false := d1
    conv => whnf
    refine branchI (fun d2 => ?_) (fun d2 => ?_)
    · have d2 : hasM (putM (mapN F k) [F k 0, F k 1] k) [F k 1, F k 2] = true := d2
      conv => whnf
      exact fl_end (dup (by simp only [dupF, d2, Bool.true_or, Bool.or_true])) rfl (by decide)
    have d2 : hasM (putM (mapN F k) [F k 0, F k 1] k) [F k 1, F k 2] = false := d2
    conv => whnf
    refine branchI (fun d3 => ?_) (fun d3 => ?_)
    · have d3 : hasM (putM (putM (mapN F k) [F k 0, F k 1] k) [F k 1, F k 2] k) [F k 2, F k 0] = true := d3
      conv => whnf
      exact fl_end (dup (by simp only [dupF, d3, Bool.or_true])) rfl (by decide)
    have d3 : hasM (putM (putM (mapN F k) [F k 0, F k 1] k) [F k 1, F k 2] k) [F k 2, F k 0] = false := d3
    have hd : dupF F k (mapN F k) = false := by
      simp only [dupF, d1, d2, d3, Bool.or_false]
    rw [if_neg (by rw [hd]; simp)] at hfk
    conv => whnf
    refine ⟨rfl, k + 1, [], ⟨hl, hfk⟩, by omega, rfl, ?_⟩
    repeat' constructor
    exact w64_nat (by omega)
  simp at hl
  rw [first_end hl] at hfk
  rw [hfk] at hS
  simp only at hS
  obtain rfl : nf = k := by omega
  conv => whnf
  refine branchT (by rw [show (Tryz.E.T 4).bytes = 1 from rfl]; simp; omega) ?_
  conv => whnf
  refine loop_inv Tryz.eok 250 (fun i : Nat => i ≤ nf ∧ first (fun i => openF F (mapN F nf) i) 0 nf = first (fun i => openF F (mapN F nf) i) i (nf - i)) (fun i => nf - i)
    (fun i => slots [(0, .ptr 0 0 0), (1, .ptr 1 0 0), (2, .ptr 2 0 0), (3, .ptr 3 0 0), (11, .ptr 6 0 0), (80, rows3 nf F), (81, i64 nf), (82, i64 i)] 0 176)
    (fun i => flM np P nf F (mapN F nf) ++ [.arr 4 [.bool] (fun _ _ => 0) (usedN F i) (fun _ _ => []), .fix 96 [.sl 5 1 0 np np]]) 0 [] ⟨Nat.zero_le _, rfl⟩ (by repeat' constructor) rfl ?_
  rintro k ⟨hk, hfk⟩
  conv => whnf
  refine branchI (fun hl => ?_) (fun hl => ?_)
  · simp at hl
    obtain ⟨b0, b1, b2, _⟩ := badF_false (hbad k hl)
    rw [first_step hl] at hfk
    conv => whnf
    refine branchT (by simp; omega) ?_
    have opn : openF F (mapN F nf) k = true → flawS np P nf F = (6, (k : Int)) := fun hb => by rw [if_pos hb] at hfk; rw [hS, hfk]
    conv => whnf
    refine loop_unroll Tryz.eok 100 5 ?_
    conv => whnf
    refine branchI (fun d1 => ?_) (fun d1 => ?_)
    · have d1 : (!hasM (mapN F nf) [F k 1, F k 0]) = true := d1
      conv => whnf
      exact fl_end (opn (by simp only [openF, d1, Bool.true_or])) rfl (by decide)
    have d1 : (!hasM (mapN F nf) [F k 1, F k 0]) = false := d1
    conv => whnf
    refine branchT (guardI b0) ?_
    conv => whnf
    refine branchI (fun d2 => ?_) (fun d2 => ?_)
    · have d2 : (!hasM (mapN F nf) [F k 2, F k 1]) = true := d2
      conv => whnf
      exact fl_end (opn (by simp only [openF, d2, Bool.true_or, Bool.or_true])) rfl (by decide)
    have d2 : (!hasM (mapN F nf) [F k 2, F k 1]) = false := d2
    conv => whnf
    refine branchT (guardI b1) ?_
    conv => whnf
    refine branchI (fun d3 => ?_) (fun d3 => ?_)
    · have d3 : (!hasM (mapN F nf) [F k 0, F k 2]) = true := d3
      conv => whnf
      exact fl_end (opn (by simp only [openF, d3, Bool.or_true])) rfl (by decide)
    have d3 : (!hasM (mapN F nf) [F k 0, F k 2]) = false := d3
    have hd : openF F (mapN F nf) k = false := by simp only [openF, d1, d2, d3, Bool.or_false]
    rw [if_neg (by rw [hd]; simp)] at hfk
    conv => whnf
    refine branchT (guardI b2) ?_
    conv => whnf
    refine ⟨rfl, k + 1, [], ⟨hl, hfk⟩, by omega, rfl, ?_⟩
    repeat' constructor
    · exact w64_nat (by omega)
    · simp only [Nat.zero_add]; rfl
  simp at hl
  rw [first_end hl] at hfk
  rw [hfk] at hS
  simp only at hS
  obtain rfl : nf = k := by omega
  have hopen : ∀ k, k < nf → openF F (mapN F nf) k = false := fun k hk => first_none hfk k (Nat.zero_le _) (by omega)
  conv => whnf
  refine callP1 (index_pure0 np (fun i => usedN F nf i 0) false (by omega)) rfl ?_
  conv => whnf
  refine branchI (fun hu => ?_) (fun hu => ?_)
  · have hu : decide (0 ≤ placeO (first (fun i => false == usedN F nf i 0) 0 np)) = true := hu
    obtain ⟨j, hj, hj2⟩ := placeO_pos hu
    conv => whnf
    exact fl_end (by rw [hS, hj]; rfl) rfl (by decide)
  have hu : decide (0 ≤ placeO (first (fun i => false == usedN F nf i 0) 0 np)) = false := hu
  rw [placeO_neg hu] at hS
  simp only at hS
  conv => whnf
  refine branchT (by rw [show (Tryz.E.T 4).bytes = 1 from rfl]; simp; omega) ?_
  conv => whnf
  refine loop_inv Tryz.eok 250 (fun s : DS => DInv (nb F (mapN F nf)) nf s.R s.n s.gi ∧ 4 * cntN s.R nf + s.n ≤ 4 * nf + 1) (fun s => 4 * cntN s.R nf + s.n)
    (fun s => slots [(0, .ptr 0 0 0), (1, .ptr 1 0 0), (2, .ptr 2 0 0), (3, .ptr 3 0 0), (18, .ptr 8 0 0), (19, .ptr 12 0 0)] 0 176)
    (fun s => flM np P nf F (mapN F nf) ++ [.dead, .dead, .arr 4 [.bool] (fun _ _ => 0) s.R (fun _ _ => []), .fix 96 [.sl 7 1 0 nf nf], .dead, .dead, .arr 3 [.int .i64] s.gi s.gb s.gs, .fix 89 [.sl 11 1 0 s.n s.n]])
    ⟨1, fun i c => cInt (nthV [i64 0] (i * 1 + c)), fun i c => cBool (nthV [i64 0] (i * 1 + c)), fun i c => cStr (nthV [i64 0] (i * 1 + c)), fun _ _ => false⟩ [9, 10] ⟨DInv.zero (by omega) _ rfl, by have := @cntN_le (fun _ _ => false) nf; show 4 * cntN (fun _ _ => false) nf + 1 ≤ _; omega⟩ (by repeat' constructor) rfl ?_
  rintro ⟨n, gi, gb, gs, R⟩ ⟨hI, hb⟩
  have hI : DInv (nb F (mapN F nf)) nf R n gi := hI
  have hb : 4 * cntN R nf + n ≤ 4 * nf + 1 := hb
  conv => whnf
  refine branchI (fun hl => ?_) (fun hl => ?_)
  · have hl : decide (0 < (n : Int)) = true := hl
    have hl := of_decide_eq_true hl
    obtain ⟨m, rfl⟩ : ∃ m, n = m + 1 := ⟨n - 1, by omega⟩
    have hm : IntKind.i64.wrap (((m + 1 : Nat) : Int) - 1) = (m : Int) := by rw [w64_in (by omega)]; omega
    obtain ⟨f0, f1⟩ := hI.dom m (by omega)
    have hfv : gi (0 + (IntKind.i64.wrap (((m + 1 : Nat) : Int) - 1)).toNat) 0 = gi m 0 := by rw [hm]; simp
    have hg : (decide (0 ≤ gi (0 + (IntKind.i64.wrap (((m + 1 : Nat) : Int) - 1)).toNat) 0) && decide (gi (0 + (IntKind.i64.wrap (((m + 1 : Nat) : Int) - 1)).toNat) 0 < (nf : Int))) = true := by rw [hfv]; exact guardI ⟨f0, f1⟩
    have hnb := nb_lt (hopen (gi (0 + (IntKind.i64.wrap (((m + 1 : Nat) : Int) - 1)).toNat) 0).toNat (by rw [hfv]; omega))
    simp only [nb, List.mem_cons, List.not_mem_nil, or_false, forall_eq_or_imp, forall_eq] at hnb
    obtain ⟨g0, g1, g2⟩ := hnb
    conv => whnf
    refine branchT (by rw [hm]; simp; omega) ?_
    conv => whnf
    refine branchT (by rw [hm]; simp; omega) ?_
    conv => whnf
    refine branchT hg ?_
    conv => whnf
    refine branchT hg ?_
    conv => whnf
    refine loop_unroll Tryz.eok 100 5 ?_
    conv => whnf
    have hn0 : (IntKind.i64.wrap (((m + 1 : Nat) : Int) - 1)).toNat - Int.toNat 0 = m := by rw [hm]; simp
    have hcap : (IntKind.i64.wrap (((m + 1 : Nat) : Int) - 1)).toNat - Int.toNat 0 ≤ m + 1 - Int.toNat 0 := by rw [hn0]; simp
    have hR2 : up2 R (0 + (gi (0 + (IntKind.i64.wrap (((m + 1 : Nat) : Int) - 1)).toNat) 0).toNat) 0 true = up2 R (gi m 0).toNat 0 true := by rw [hfv, Nat.zero_add]
    have tr : ∀ (a b : Nat) (c : Bool), (!(up2 R (0 + (gi (0 + (IntKind.i64.wrap (((m + 1 : Nat) : Int) - 1)).toNat) 0).toNat) 0 true (0 + (valOr (mapN F nf) [F (gi (0 + (IntKind.i64.wrap (((m + 1 : Nat) : Int) - 1)).toNat) 0).toNat a, F (gi (0 + (IntKind.i64.wrap (((m + 1 : Nat) : Int) - 1)).toNat) 0).toNat b]).toNat) 0)) = c →
        up2 R (gi m 0).toNat 0 true (valOr (mapN F nf) [F (gi m 0).toNat a, F (gi m 0).toNat b]).toNat 0 = !c := by
      intro a b c h
      rw [hfv, Nat.zero_add, Nat.zero_add] at h
      rw [← h, Bool.not_not]
    have te : ∀ (a b : Nat), valOr (mapN F nf) [F (gi (0 + (IntKind.i64.wrap (((m + 1 : Nat) : Int) - 1)).toNat) 0).toNat a, F (gi (0 + (IntKind.i64.wrap (((m + 1 : Nat) : Int) - 1)).toNat) 0).toNat b] = valOr (mapN F nf) [F (gi m 0).toNat a, F (gi m 0).toNat b] := fun a b => by rw [hfv]
    have hN : ∀ f, f < nf → ∀ g ∈ nb F (mapN F nf) f, 0 ≤ g ∧ g < nf := fun f hf => nb_lt (hopen f hf)
    refine branchT (guardI g0) ?_
    conv => whnf
    refine branchI (fun p0 => ?_) (fun p0 => ?_)
    · conv => whnf
      refine branchT (fits8 (by show (IntKind.i64.wrap (((m + 1 : Nat) : Int) - 1)).toNat - Int.toNat 0 + 1 ≤ 100000; rw [hn0]; omega)) ?_
      conv => whnf
      refine branchT (guardI g1) ?_
      conv => whnf
      refine branchI (fun p1 => ?_) (fun p1 => ?_)
      · conv => whnf
        refine branchT (fits8 (by show (IntKind.i64.wrap (((m + 1 : Nat) : Int) - 1)).toNat - Int.toNat 0 + 1 + 1 ≤ 100000; rw [hn0]; omega)) ?_
        conv => whnf
        refine branchT (guardI g2) ?_
        conv => whnf
        refine branchI (fun p2 => ?_) (fun p2 => ?_)
        · conv => whnf
          refine branchT (fits8 (by show (IntKind.i64.wrap (((m + 1 : Nat) : Int) - 1)).toNat - Int.toNat 0 + 1 + 1 + 1 ≤ 100000; rw [hn0]; omega)) ?_
          conv => whnf
          apply dfs_leaf hI hb hN (fun _ => rfl) (m + 3) ((IntKind.i64.wrap (((m + 1 : Nat) : Int) - 1)).toNat - Int.toNat 0 + 1 + 1 + 1) (S1 ((IntKind.i64.wrap (((m + 1 : Nat) : Int) - 1)).toNat - Int.toNat 0 + 1 + 1) (S1 ((IntKind.i64.wrap (((m + 1 : Nat) : Int) - 1)).toNat - Int.toNat 0 + 1) (S1 ((IntKind.i64.wrap (((m + 1 : Nat) : Int) - 1)).toNat - Int.toNat 0) gi (valOr (mapN F nf) [F (gi (0 + (IntKind.i64.wrap (((m + 1 : Nat) : Int) - 1)).toNat) 0).toNat 1, F (gi (0 + (IntKind.i64.wrap (((m + 1 : Nat) : Int) - 1)).toNat) 0).toNat 0])) (valOr (mapN F nf) [F (gi (0 + (IntKind.i64.wrap (((m + 1 : Nat) : Int) - 1)).toNat) 0).toNat 2, F (gi (0 + (IntKind.i64.wrap (((m + 1 : Nat) : Int) - 1)).toNat) 0).toNat 1])) (valOr (mapN F nf) [F (gi (0 + (IntKind.i64.wrap (((m + 1 : Nat) : Int) - 1)).toNat) 0).toNat 0, F (gi (0 + (IntKind.i64.wrap (((m + 1 : Nat) : Int) - 1)).toNat) 0).toNat 2])) _ _ (up2 R (0 + (gi (0 + (IntKind.i64.wrap (((m + 1 : Nat) : Int) - 1)).toNat) 0).toNat) 0 true) [23, 24] (by rw [hn0]) hR2 (pushed_S1 (by rw [hn0]) (te 1 0) (tr 1 0 _ p0) (pushed_S1 (by rw [hn0]) (te 2 1) (tr 2 1 _ p1) (pushed_S1 (by rw [hn0]) (te 0 2) (tr 0 2 _ p2) .nil))) rfl
          repeat' (first | with_reducible exact Nat.le_refl _ | exact rfl | exact Nat.le_refl _ | refine And.intro ?_ ?_)
        · conv => whnf
          apply dfs_leaf hI hb hN (fun _ => rfl) (m + 2) ((IntKind.i64.wrap (((m + 1 : Nat) : Int) - 1)).toNat - Int.toNat 0 + 1 + 1) (S1 ((IntKind.i64.wrap (((m + 1 : Nat) : Int) - 1)).toNat - Int.toNat 0 + 1) (S1 ((IntKind.i64.wrap (((m + 1 : Nat) : Int) - 1)).toNat - Int.toNat 0) gi (valOr (mapN F nf) [F (gi (0 + (IntKind.i64.wrap (((m + 1 : Nat) : Int) - 1)).toNat) 0).toNat 1, F (gi (0 + (IntKind.i64.wrap (((m + 1 : Nat) : Int) - 1)).toNat) 0).toNat 0])) (valOr (mapN F nf) [F (gi (0 + (IntKind.i64.wrap (((m + 1 : Nat) : Int) - 1)).toNat) 0).toNat 2, F (gi (0 + (IntKind.i64.wrap (((m + 1 : Nat) : Int) - 1)).toNat) 0).toNat 1])) _ _ (up2 R (0 + (gi (0 + (IntKind.i64.wrap (((m + 1 : Nat) : Int) - 1)).toNat) 0).toNat) 0 true) [20, 22] (by rw [hn0]) hR2 (pushed_S1 (by rw [hn0]) (te 1 0) (tr 1 0 _ p0) (pushed_S1 (by rw [hn0]) (te 2 1) (tr 2 1 _ p1) (.skip (tr 0 2 _ p2) .nil))) rfl
          repeat' (first | with_reducible exact Nat.le_refl _ | exact rfl | exact Nat.le_refl _ | refine And.intro ?_ ?_)
      · conv => whnf
        refine branchT (guardI g2) ?_
        conv => whnf
        refine branchI (fun p2 => ?_) (fun p2 => ?_)
        · conv => whnf
          refine branchT (fits8 (by show (IntKind.i64.wrap (((m + 1 : Nat) : Int) - 1)).toNat - Int.toNat 0 + 1 + 1 ≤ 100000; rw [hn0]; omega)) ?_
          conv => whnf
          apply dfs_leaf hI hb hN (fun _ => rfl) (m + 2) ((IntKind.i64.wrap (((m + 1 : Nat) : Int) - 1)).toNat - Int.toNat 0 + 1 + 1) (S1 ((IntKind.i64.wrap (((m + 1 : Nat) : Int) - 1)).toNat - Int.toNat 0 + 1) (S1 ((IntKind.i64.wrap (((m + 1 : Nat) : Int) - 1)).toNat - Int.toNat 0) gi (valOr (mapN F nf) [F (gi (0 + (IntKind.i64.wrap (((m + 1 : Nat) : Int) - 1)).toNat) 0).toNat 1, F (gi (0 + (IntKind.i64.wrap (((m + 1 : Nat) : Int) - 1)).toNat) 0).toNat 0])) (valOr (mapN F nf) [F (gi (0 + (IntKind.i64.wrap (((m + 1 : Nat) : Int) - 1)).toNat) 0).toNat 0, F (gi (0 + (IntKind.i64.wrap (((m + 1 : Nat) : Int) - 1)).toNat) 0).toNat 2])) _ _ (up2 R (0 + (gi (0 + (IntKind.i64.wrap (((m + 1 : Nat) : Int) - 1)).toNat) 0).toNat) 0 true) [21, 22] (by rw [hn0]) hR2 (pushed_S1 (by rw [hn0]) (te 1 0) (tr 1 0 _ p0) (.skip (tr 2 1 _ p1) (pushed_S1 (by rw [hn0]) (te 0 2) (tr 0 2 _ p2) .nil))) rfl
          repeat' (first | with_reducible exact Nat.le_refl _ | exact rfl | exact Nat.le_refl _ | refine And.intro ?_ ?_)
        · conv => whnf
          apply dfs_leaf hI hb hN (fun _ => rfl) (m + 1) ((IntKind.i64.wrap (((m + 1 : Nat) : Int) - 1)).toNat - Int.toNat 0 + 1) (S1 ((IntKind.i64.wrap (((m + 1 : Nat) : Int) - 1)).toNat - Int.toNat 0) gi (valOr (mapN F nf) [F (gi (0 + (IntKind.i64.wrap (((m + 1 : Nat) : Int) - 1)).toNat) 0).toNat 1, F (gi (0 + (IntKind.i64.wrap (((m + 1 : Nat) : Int) - 1)).toNat) 0).toNat 0])) _ _ (up2 R (0 + (gi (0 + (IntKind.i64.wrap (((m + 1 : Nat) : Int) - 1)).toNat) 0).toNat) 0 true) [17, 20] (by rw [hn0]) hR2 (pushed_S1 (by rw [hn0]) (te 1 0) (tr 1 0 _ p0) (.skip (tr 2 1 _ p1) (.skip (tr 0 2 _ p2) .nil))) rfl
          repeat' (first | with_reducible exact Nat.le_refl _ | exact rfl | exact Nat.le_refl _ | refine And.intro ?_ ?_)
    · conv => whnf
      refine branchT (guardI g1) ?_
      conv => whnf
      refine branchI (fun p1 => ?_) (fun p1 => ?_)
      · conv => whnf
        refine branchT (fits8 (by show (IntKind.i64.wrap (((m + 1 : Nat) : Int) - 1)).toNat - Int.toNat 0 + 1 ≤ 100000; rw [hn0]; omega)) ?_
        conv => whnf
        refine branchT (guardI g2) ?_
        conv => whnf
        refine branchI (fun p2 => ?_) (fun p2 => ?_)
        · conv => whnf
          refine branchT (fits8 (by show (IntKind.i64.wrap (((m + 1 : Nat) : Int) - 1)).toNat - Int.toNat 0 + 1 + 1 ≤ 100000; rw [hn0]; omega)) ?_
          conv => whnf
          apply dfs_leaf hI hb hN (fun _ => rfl) (m + 2) ((IntKind.i64.wrap (((m + 1 : Nat) : Int) - 1)).toNat - Int.toNat 0 + 1 + 1) (S1 ((IntKind.i64.wrap (((m + 1 : Nat) : Int) - 1)).toNat - Int.toNat 0 + 1) (S1 ((IntKind.i64.wrap (((m + 1 : Nat) : Int) - 1)).toNat - Int.toNat 0) gi (valOr (mapN F nf) [F (gi (0 + (IntKind.i64.wrap (((m + 1 : Nat) : Int) - 1)).toNat) 0).toNat 2, F (gi (0 + (IntKind.i64.wrap (((m + 1 : Nat) : Int) - 1)).toNat) 0).toNat 1])) (valOr (mapN F nf) [F (gi (0 + (IntKind.i64.wrap (((m + 1 : Nat) : Int) - 1)).toNat) 0).toNat 0, F (gi (0 + (IntKind.i64.wrap (((m + 1 : Nat) : Int) - 1)).toNat) 0).toNat 2])) _ _ (up2 R (0 + (gi (0 + (IntKind.i64.wrap (((m + 1 : Nat) : Int) - 1)).toNat) 0).toNat) 0 true) [21, 22] (by rw [hn0]) hR2 (.skip (tr 1 0 _ p0) (pushed_S1 (by rw [hn0]) (te 2 1) (tr 2 1 _ p1) (pushed_S1 (by rw [hn0]) (te 0 2) (tr 0 2 _ p2) .nil))) rfl
          repeat' (first | with_reducible exact Nat.le_refl _ | exact rfl | exact Nat.le_refl _ | refine And.intro ?_ ?_)
        · conv => whnf
          apply dfs_leaf hI hb hN (fun _ => rfl) (m + 1) ((IntKind.i64.wrap (((m + 1 : Nat) : Int) - 1)).toNat - Int.toNat 0 + 1) (S1 ((IntKind.i64.wrap (((m + 1 : Nat) : Int) - 1)).toNat - Int.toNat 0) gi (valOr (mapN F nf) [F (gi (0 + (IntKind.i64.wrap (((m + 1 : Nat) : Int) - 1)).toNat) 0).toNat 2, F (gi (0 + (IntKind.i64.wrap (((m + 1 : Nat) : Int) - 1)).toNat) 0).toNat 1])) _ _ (up2 R (0 + (gi (0 + (IntKind.i64.wrap (((m + 1 : Nat) : Int) - 1)).toNat) 0).toNat) 0 true) [18, 20] (by rw [hn0]) hR2 (.skip (tr 1 0 _ p0) (pushed_S1 (by rw [hn0]) (te 2 1) (tr 2 1 _ p1) (.skip (tr 0 2 _ p2) .nil))) rfl
          repeat' (first | with_reducible exact Nat.le_refl _ | exact rfl | exact Nat.le_refl _ | refine And.intro ?_ ?_)
      · conv => whnf
        refine branchT (guardI g2) ?_
        conv => whnf
        refine branchI (fun p2 => ?_) (fun p2 => ?_)
        · conv => whnf
          refine branchT (fits8 (by show (IntKind.i64.wrap (((m + 1 : Nat) : Int) - 1)).toNat - Int.toNat 0 + 1 ≤ 100000; rw [hn0]; omega)) ?_
          conv => whnf
          apply dfs_leaf hI hb hN (fun _ => rfl) (m + 1) ((IntKind.i64.wrap (((m + 1 : Nat) : Int) - 1)).toNat - Int.toNat 0 + 1) (S1 ((IntKind.i64.wrap (((m + 1 : Nat) : Int) - 1)).toNat - Int.toNat 0) gi (valOr (mapN F nf) [F (gi (0 + (IntKind.i64.wrap (((m + 1 : Nat) : Int) - 1)).toNat) 0).toNat 0, F (gi (0 + (IntKind.i64.wrap (((m + 1 : Nat) : Int) - 1)).toNat) 0).toNat 2])) _ _ (up2 R (0 + (gi (0 + (IntKind.i64.wrap (((m + 1 : Nat) : Int) - 1)).toNat) 0).toNat) 0 true) [19, 20] (by rw [hn0]) hR2 (.skip (tr 1 0 _ p0) (.skip (tr 2 1 _ p1) (pushed_S1 (by rw [hn0]) (te 0 2) (tr 0 2 _ p2) .nil))) rfl
          repeat' (first | with_reducible exact Nat.le_refl _ | exact rfl | exact Nat.le_refl _ | refine And.intro ?_ ?_)
        · conv => whnf
          apply dfs_leaf hI hb hN (fun _ => rfl) m ((IntKind.i64.wrap (((m + 1 : Nat) : Int) - 1)).toNat - Int.toNat 0) gi _ _ (up2 R (0 + (gi (0 + (IntKind.i64.wrap (((m + 1 : Nat) : Int) - 1)).toNat) 0).toNat) 0 true) [11, 18] (by rw [hn0]) hR2 (.skip (tr 1 0 _ p0) (.skip (tr 2 1 _ p1) (.skip (tr 0 2 _ p2) .nil))) rfl
          repeat' (first | with_reducible exact Nat.le_refl _ | exact rfl | exact hcap | refine And.intro ?_ ?_)
  · have hl : decide (0 < (n : Int)) = false := hl
    have hl := of_decide_eq_false hl
    obtain rfl : n = 0 := by omega
    have hR : R = fun f c => R f c := rfl
    have hdone : ∀ f, R f 0 = reachN F nf f := fun f => by
      rw [reachN]
      have := hI.done f
      cases h : R f 0 with
      | true => exact (@decide_eq_true _ (Classical.propDecidable _) (this.1 h)).symm
      | false => exact (@decide_eq_false _ (Classical.propDecidable _) (fun hc => by rw [this.2 hc] at h; cases h)).symm
    have hfe : (fun i => false == R i 0) = fun i => false == reachN F nf i := funext fun f => by rw [hdone]
    conv => whnf
    refine callP1 (index_pure0 nf (fun i => R i 0) false (by omega)) rfl ?_
    rw [hfe]
    conv => whnf
    refine branchI (fun hu => ?_) (fun hu => ?_)
    · have hu : decide (0 ≤ placeO (first (fun i => false == reachN F nf i) 0 nf)) = true := hu
      obtain ⟨j, hj, hj2⟩ := placeO_pos hu
      conv => whnf
      exact fl_end (by rw [hS, hj]; rfl) rfl (by decide)
    have hu : decide (0 ≤ placeO (first (fun i => false == reachN F nf i) 0 nf)) = false := hu
    rw [placeO_neg hu] at hS
    simp only at hS
    conv => whnf
    exact fl_end0 hS rfl
end Go.Proofs.YtkhbmendaapojaaGreatDoor
/- The reference: far, place, Normal. (Printed by rpgen.py.) -/
namespace Go.Proofs.YtkhbmendaapojaaGreatDoor
open Go Go.Vx
set_option maxRecDepth 100000
attribute [local irreducible] CallV LoopV CodeV
abbrev meshV (np : Nat) (P : Nat → Nat → Int) (nf : Nat) (F : Nat → Nat → Int) : V := .agg [rows3 np P, rows3 nf F]
theorem rfar_pure (a0 a1 a2 : Int) : Pure Tryz.prog 54 [pt a0 a1 a2] (fun o => o = .ret (.bool (far3 a0 a1 a2))) := by
  refine pure_of Tryz.func54 rfl 200 ?_
  conv => whnf
  refine loop_unroll Tryz.eok 100 5 ?_
  conv => whnf
  refine branchI (fun h0 => ?_) (fun h0 => ?_)
  · conv => whnf
    exact retB (by simp only [far3, farB, h0, Bool.true_or, Bool.or_true, Bool.or_self, Bool.false_or])
  conv => whnf
  refine branchI (fun g0 => ?_) (fun g0 => ?_)
  · have g0 : decide (200000 < a0) = true := g0
    conv => whnf
    exact retB (by simp only [far3, farB, h0, g0, Bool.true_or, Bool.or_true, Bool.or_self, Bool.false_or])
  have g0 : decide (200000 < a0) = false := g0
  conv => whnf
  refine branchI (fun h1 => ?_) (fun h1 => ?_)
  · conv => whnf
    exact retB (by simp only [far3, farB, h0, g0, h1, Bool.true_or, Bool.or_true, Bool.or_self, Bool.false_or])
  conv => whnf
  refine branchI (fun g1 => ?_) (fun g1 => ?_)
  · have g1 : decide (200000 < a1) = true := g1
    conv => whnf
    exact retB (by simp only [far3, farB, h0, g0, h1, g1, Bool.true_or, Bool.or_true, Bool.or_self, Bool.false_or])
  have g1 : decide (200000 < a1) = false := g1
  conv => whnf
  refine branchI (fun h2 => ?_) (fun h2 => ?_)
  · conv => whnf
    exact retB (by simp only [far3, farB, h0, g0, h1, g1, h2, Bool.true_or, Bool.or_true, Bool.or_self, Bool.false_or])
  conv => whnf
  refine branchI (fun g2 => ?_) (fun g2 => ?_)
  · have g2 : decide (200000 < a2) = true := g2
    conv => whnf
    exact retB (by simp only [far3, farB, h0, g0, h1, g1, h2, g2, Bool.true_or, Bool.or_true, Bool.or_self, Bool.false_or])
  have g2 : decide (200000 < a2) = false := g2
  conv => whnf
  exact retB (by simp only [far3, farB, h0, g0, h1, g1, h2, g2, Bool.or_self])
def edgeF (F : Nat → Nat → Int) (a b : Int) (f : Nat) : Bool := (F f 0 == a && F f 1 == b) || ((F f 1 == a && F f 2 == b) || (F f 2 == a && F f 0 == b))
def plc (F : Nat → Nat → Int) (a b : Int) (n : Nat) : Option Nat := first (edgeF F a b) 0 n
theorem rplace_pure (np : Nat) (P : Nat → Nat → Int) (nf : Nat) (F : Nat → Nat → Int) (a b : Int) (n : Nat) (hn : n ≤ nf) (hnf : nf < 4611686018427387904) :
    Pure Tryz.prog 58 [meshV np P nf F, i64 a, i64 b, i64 n] (fun o => o = .ret (i64 (placeO (plc F a b n)))) := by
  refine pure_of Tryz.func58 rfl 200 ?_
  conv => whnf
  refine loop_inv Tryz.eok 180 (fun i : Nat => i ≤ n ∧ plc F a b n = first (edgeF F a b) i (n - i)) (fun i => n - i)
    (fun i => slots [(1, i64 a), (2, i64 b), (3, i64 n), (4, .ptr 0 0 0), (9, i64 i)] 0 43) (fun _ => [.fix 24 [rows3 np P, rows3 nf F]]) 0 [] ⟨Nat.zero_le _, rfl⟩ (by repeat' constructor) rfl ?_
  rintro k ⟨hk, hf⟩
  conv => whnf
  refine branchI (fun hl => ?_) (fun hl => ?_)
  · simp at hl
    rw [first_step hl] at hf
    have hin : (decide (0 ≤ (k : Int)) && decide ((k : Int) < (nf : Int))) = true := guardI ⟨by omega, by omega⟩
    have yes : edgeF F a b k = true → placeO (plc F a b n) = (k : Int) := fun h => by rw [hf, if_pos h]; rfl
    have no : edgeF F a b k = false → plc F a b n = first (edgeF F a b) (k + 1) (n - (k + 1)) := fun h => by rw [hf, if_neg (by rw [h]; simp)]
    conv => whnf
    refine loop_unroll Tryz.eok 100 5 ?_
    conv => whnf
    refine branchT hin ?_
    conv => whnf
    refine branchI (fun a0 => ?_) (fun a0 => ?_)
    · have a0 : (F k 0 == a) = true := a0
      conv => whnf
      refine branchT hin ?_
      conv => whnf
      refine branchI (fun b0 => ?_) (fun b0 => ?_)
      · have b0 : (F k 1 == b) = true := b0
        conv => whnf
        exact retI (yes (by simp only [edgeF, a0, b0, Bool.and_self, Bool.true_or, Bool.or_true])).symm
      · have b0 : (F k 1 == b) = false := b0
        conv => whnf
        refine branchT hin ?_
        conv => whnf
        refine branchI (fun a1 => ?_) (fun a1 => ?_)
        · have a1 : (F k 1 == a) = true := a1
          conv => whnf
          refine branchT hin ?_
          conv => whnf
          refine branchI (fun b1 => ?_) (fun b1 => ?_)
          · have b1 : (F k 2 == b) = true := b1
            conv => whnf
            exact retI (yes (by simp only [edgeF, a0, b0, a1, b1, Bool.and_self, Bool.true_or, Bool.or_true])).symm
          · have b1 : (F k 2 == b) = false := b1
            conv => whnf
            refine branchT hin ?_
            conv => whnf
            refine branchI (fun a2 => ?_) (fun a2 => ?_)
            · have a2 : (F k 2 == a) = true := a2
              conv => whnf
              refine branchT hin ?_
              conv => whnf
              refine branchI (fun b2 => ?_) (fun b2 => ?_)
              · have b2 : (F k 0 == b) = true := b2
                conv => whnf
                exact retI (yes (by simp only [edgeF, a0, b0, a1, b1, a2, b2, Bool.and_self, Bool.true_or, Bool.or_true])).symm
              · have b2 : (F k 0 == b) = false := b2
                conv => whnf
                refine ⟨rfl, k + 1, [], ⟨hl, no (by simp only [edgeF, a0, b0, a1, b1, a2, b2, Bool.false_and, Bool.and_false, Bool.true_and, Bool.or_false])⟩, by omega, rfl, ?_⟩
                repeat' constructor
                exact w64_nat (by omega)
            · have a2 : (F k 2 == a) = false := a2
              conv => whnf
              refine ⟨rfl, k + 1, [], ⟨hl, no (by simp only [edgeF, a0, b0, a1, b1, a2, Bool.false_and, Bool.and_false, Bool.true_and, Bool.or_false])⟩, by omega, rfl, ?_⟩
              repeat' constructor
              exact w64_nat (by omega)
        · have a1 : (F k 1 == a) = false := a1
          conv => whnf
          refine branchT hin ?_
          conv => whnf
          refine branchI (fun a2 => ?_) (fun a2 => ?_)
          · have a2 : (F k 2 == a) = true := a2
            conv => whnf
            refine branchT hin ?_
            conv => whnf
            refine branchI (fun b2 => ?_) (fun b2 => ?_)
            · have b2 : (F k 0 == b) = true := b2
              conv => whnf
              exact retI (yes (by simp only [edgeF, a0, b0, a1, a2, b2, Bool.and_self, Bool.true_or, Bool.or_true])).symm
            · have b2 : (F k 0 == b) = false := b2
              conv => whnf
              refine ⟨rfl, k + 1, [], ⟨hl, no (by simp only [edgeF, a0, b0, a1, a2, b2, Bool.false_and, Bool.and_false, Bool.true_and, Bool.or_false])⟩, by omega, rfl, ?_⟩
              repeat' constructor
              exact w64_nat (by omega)
          · have a2 : (F k 2 == a) = false := a2
            conv => whnf
            refine ⟨rfl, k + 1, [], ⟨hl, no (by simp only [edgeF, a0, b0, a1, a2, Bool.false_and, Bool.and_false, Bool.true_and, Bool.or_false])⟩, by omega, rfl, ?_⟩
            repeat' constructor
            exact w64_nat (by omega)
    · have a0 : (F k 0 == a) = false := a0
      conv => whnf
      refine branchT hin ?_
      conv => whnf
      refine branchI (fun a1 => ?_) (fun a1 => ?_)
      · have a1 : (F k 1 == a) = true := a1
        conv => whnf
        refine branchT hin ?_
        conv => whnf
        refine branchI (fun b1 => ?_) (fun b1 => ?_)
        · have b1 : (F k 2 == b) = true := b1
          conv => whnf
          exact retI (yes (by simp only [edgeF, a0, a1, b1, Bool.and_self, Bool.true_or, Bool.or_true])).symm
        · have b1 : (F k 2 == b) = false := b1
          conv => whnf
          refine branchT hin ?_
          conv => whnf
          refine branchI (fun a2 => ?_) (fun a2 => ?_)
          · have a2 : (F k 2 == a) = true := a2
            conv => whnf
            refine branchT hin ?_
            conv => whnf
            refine branchI (fun b2 => ?_) (fun b2 => ?_)
            · have b2 : (F k 0 == b) = true := b2
              conv => whnf
              exact retI (yes (by simp only [edgeF, a0, a1, b1, a2, b2, Bool.and_self, Bool.true_or, Bool.or_true])).symm
            · have b2 : (F k 0 == b) = false := b2
              conv => whnf
              refine ⟨rfl, k + 1, [], ⟨hl, no (by simp only [edgeF, a0, a1, b1, a2, b2, Bool.false_and, Bool.and_false, Bool.true_and, Bool.or_false])⟩, by omega, rfl, ?_⟩
              repeat' constructor
              exact w64_nat (by omega)
          · have a2 : (F k 2 == a) = false := a2
            conv => whnf
            refine ⟨rfl, k + 1, [], ⟨hl, no (by simp only [edgeF, a0, a1, b1, a2, Bool.false_and, Bool.and_false, Bool.true_and, Bool.or_false])⟩, by omega, rfl, ?_⟩
            repeat' constructor
            exact w64_nat (by omega)
      · have a1 : (F k 1 == a) = false := a1
        conv => whnf
        refine branchT hin ?_
        conv => whnf
        refine branchI (fun a2 => ?_) (fun a2 => ?_)
        · have a2 : (F k 2 == a) = true := a2
          conv => whnf
          refine branchT hin ?_
          conv => whnf
          refine branchI (fun b2 => ?_) (fun b2 => ?_)
          · have b2 : (F k 0 == b) = true := b2
            conv => whnf
            exact retI (yes (by simp only [edgeF, a0, a1, a2, b2, Bool.and_self, Bool.true_or, Bool.or_true])).symm
          · have b2 : (F k 0 == b) = false := b2
            conv => whnf
            refine ⟨rfl, k + 1, [], ⟨hl, no (by simp only [edgeF, a0, a1, a2, b2, Bool.false_and, Bool.and_false, Bool.true_and, Bool.or_false])⟩, by omega, rfl, ?_⟩
            repeat' constructor
            exact w64_nat (by omega)
        · have a2 : (F k 2 == a) = false := a2
          conv => whnf
          refine ⟨rfl, k + 1, [], ⟨hl, no (by simp only [edgeF, a0, a1, a2, Bool.false_and, Bool.and_false, Bool.true_and, Bool.or_false])⟩, by omega, rfl, ?_⟩
          repeat' constructor
          exact w64_nat (by omega)
  simp at hl
  conv => whnf
  exact retI (by rw [hf, first_end hl]; rfl)
def nrm (P : Nat → Nat → Int) (a b c : Int) : V :=
  let p := P a.toNat; let q := P b.toNat; let r := P c.toNat
  let u0 := w64 (q 0 - p 0); let u1 := w64 (q 1 - p 1); let u2 := w64 (q 2 - p 2)
  let v0 := w64 (r 0 - p 0); let v1 := w64 (r 1 - p 1); let v2 := w64 (r 2 - p 2)
  pt (crossC u1 v2 u2 v1) (crossC u2 v0 u0 v2) (crossC u0 v1 u1 v0)
theorem rnormal_pure (np : Nat) (P : Nat → Nat → Int) (nf : Nat) (F : Nat → Nat → Int) (k : Nat) (hk : k < nf) (hb : badF np (F k 0) (F k 1) (F k 2) = false) :
    Pure Tryz.prog 77 [meshV np P nf F, i64 k] (fun o => o = .ret (nrm P (F k 0) (F k 1) (F k 2))) := by
  have hin : (decide (0 ≤ (k : Int)) && decide ((k : Int) < (nf : Int))) = true := guardI ⟨by omega, by omega⟩
  obtain ⟨b0, b1, b2, _⟩ := badF_false hb
  refine pure_of Tryz.func77 rfl 200 ?_
  conv => whnf
  refine branchT hin ?_
  conv => whnf
  refine branchT (guardI b0) ?_
  conv => whnf
  refine branchT hin ?_
  conv => whnf
  refine branchT (guardI b1) ?_
  conv => whnf
  refine branchT hin ?_
  conv => whnf
  refine branchT (guardI b2) ?_
  conv => whnf
  first | refine callF1 (rminus_pure _ _ _ _ _ _) rfl rfl ?_ | refine ⟨_, _, callD (rminus_pure _ _ _ _ _ _) rfl (.inl rfl), ?_⟩
  conv => whnf
  first | refine callF1 (rminus_pure _ _ _ _ _ _) rfl rfl ?_ | refine ⟨_, _, callD (rminus_pure _ _ _ _ _ _) rfl (.inl rfl), ?_⟩
  conv => whnf
  first | refine callF1 (rcross_pure _ _ _ _ _ _) rfl rfl ?_ | refine ⟨_, _, callD (rcross_pure _ _ _ _ _ _) rfl (.inl rfl), ?_⟩
  conv => whnf
  rfl
end Go.Proofs.YtkhbmendaapojaaGreatDoor
/- The reference: shapes. (Printed by rsgen.py.) -/
namespace Go.Proofs.YtkhbmendaapojaaGreatDoor
open Go Go.Vx
set_option maxRecDepth 100000
attribute [local irreducible] CallV LoopV CodeV
theorem retP {a b : Int} {p : Int × Int} (h : p = (a, b)) : Out.ret (.tup [i64 a, i64 b]) = .ret (.tup [i64 p.1, i64 p.2]) := by rw [h]
theorem badF_of {np : Nat} {a b c : Int} (h : a < 0 ∨ (np : Int) ≤ a ∨ a = b ∨ b < 0 ∨ (np : Int) ≤ b ∨ b = c ∨ c < 0 ∨ (np : Int) ≤ c ∨ c = a) : badF np a b c = true := by
  cases hb : badF np a b c with
  | true => rfl
  | false => have := badF_false hb; omega
theorem badF_not {np : Nat} {a b c : Int} (h : ¬ (a < 0 ∨ (np : Int) ≤ a ∨ a = b ∨ b < 0 ∨ (np : Int) ≤ b ∨ b = c ∨ c < 0 ∨ (np : Int) ≤ c ∨ c = a)) : badF np a b c = false := by
  simp only [badF, Bool.or_eq_false_iff, beq_eq_false_iff_ne, decide_eq_false_iff_not, min3_lt, max3_le]
  omega
theorem shapes_pure (np : Nat) (P : Nat → Nat → Int) (nf : Nat) (F : Nat → Nat → Int) :
    Pure Tryz.prog 57 [meshV np P nf F] (fun o => o = .ret (.tup [i64 (singleS np P nf F).1, i64 (singleS np P nf F).2])) := by
  refine pure_of Tryz.func57 rfl 250 ?_
  conv => whnf
  refine branchI (fun h1 => ?_) (fun h1 => ?_)
  · conv => whnf
    exact retP (by simp at h1; simp [singleS, h1])
  conv => whnf
  refine branchI (fun h2 => ?_) (fun h2 => ?_)
  · conv => whnf
    exact retP (by simp at h2; simp [singleS, h2])
  simp at h1 h2
  conv => whnf
  refine branchI (fun h3 => ?_) (fun h3 => ?_)
  · conv => whnf
    exact retP (by simp at h3; simp [singleS, h3]; omega)
  conv => whnf
  refine branchI (fun h4 => ?_) (fun h4 => ?_)
  · conv => whnf
    exact retP (by simp at h4; simp [singleS, h4]; omega)
  simp at h3 h4
  have hS : singleS np P nf F = (match first (fun i => far3 (P i 0) (P i 1) (P i 2)) 0 np with
      | some i => (2, (i : Int))
      | none => match first (fun i => badF np (F i 0) (F i 1) (F i 2)) 0 nf with
        | some i => (3, (i : Int))
        | none => match first (fun i => flatF P (F i 0) (F i 1) (F i 2)) 0 nf with
          | some i => (4, (i : Int))
          | none => (0, 0)) := by
    simp only [singleS]
    rw [if_neg (by omega), if_neg (by omega)]
    rfl
  conv => whnf
  refine loop_inv Tryz.eok 220 (fun i : Nat => i ≤ np ∧ first (fun i => far3 (P i 0) (P i 1) (P i 2)) 0 np = first (fun i => far3 (P i 0) (P i 1) (P i 2)) i (np - i)) (fun i => np - i)
    (fun i => slots [(1, .ptr 0 0 0), (4, i64 np), (5, i64 i)] 0 93) (fun _ => [.fix 24 [rows3 np P, rows3 nf F]]) 0 [] ⟨Nat.zero_le _, rfl⟩ (by repeat' constructor) rfl ?_
  rintro i ⟨hi, hfi⟩
  conv => whnf
  refine branchI (fun hl => ?_) (fun hl => ?_)
  · simp at hl
    rw [first_step hl] at hfi
    conv => whnf
    refine branchT (by simp; omega) ?_
    conv => whnf
    refine callF1 (rfar_pure _ _ _) rfl rfl ?_
    conv => whnf
    refine branchI (fun hf => ?_) (fun hf => ?_)
    · conv => whnf
      have hf : far3 (P i 0) (P i 1) (P i 2) = true := hf
      rw [if_pos hf] at hfi
      exact retP (by rw [hS, hfi])
    · conv => whnf
      have hf : far3 (P i 0) (P i 1) (P i 2) = false := hf
      rw [if_neg (by rw [hf]; simp)] at hfi
      refine ⟨rfl, i + 1, [], ⟨hl, hfi⟩, by omega, rfl, ?_⟩
      repeat' constructor
      exact w64_nat (by omega)
  simp at hl
  rw [first_end hl] at hfi
  rw [hfi] at hS
  simp only at hS
  conv => whnf
  refine loop_inv Tryz.eok 220 (fun i : Nat => i ≤ nf ∧ first (fun i => badF np (F i 0) (F i 1) (F i 2)) 0 nf = first (fun i => badF np (F i 0) (F i 1) (F i 2)) i (nf - i)) (fun i => nf - i)
    (fun i => slots [(1, .ptr 0 0 0), (4, i64 np), (6, i64 i)] 0 93) (fun _ => [.fix 24 [rows3 np P, rows3 nf F]]) 0 [] ⟨Nat.zero_le _, rfl⟩ (by repeat' constructor) rfl ?_
  rintro k ⟨hk, hfk⟩
  conv => whnf
  refine branchI (fun hl2 => ?_) (fun hl2 => ?_)
  · simp at hl2
    rw [first_step hl2] at hfk
    conv => whnf
    refine branchT (by simp; omega) ?_
    have bad : badF np (F k 0) (F k 1) (F k 2) = true → singleS np P nf F = (3, (k : Int)) := fun hb => by rw [if_pos hb] at hfk; rw [hS, hfk]
    have good : badF np (F k 0) (F k 1) (F k 2) = false → first (fun i => badF np (F i 0) (F i 1) (F i 2)) 0 nf = first (fun i => badF np (F i 0) (F i 1) (F i 2)) (k + 1) (nf - (k + 1)) := fun hb => by rw [if_neg (by rw [hb]; simp)] at hfk; exact hfk
    conv => whnf
    refine loop_unroll Tryz.eok 100 5 ?_
    conv => whnf
    refine branchI (fun c00 => ?_) (fun c00 => ?_)
    · have c00 : decide (F k 0 < 0) = true := c00
      have c00 := of_decide_eq_true c00
      conv => whnf
      exact retP (bad (badF_of (by omega)))
    have c00 : decide (F k 0 < 0) = false := c00
    have c00 := of_decide_eq_false c00
    conv => whnf
    refine branchI (fun c01 => ?_) (fun c01 => ?_)
    · have c01 : decide ((np : Int) ≤ F k 0) = true := c01
      have c01 := of_decide_eq_true c01
      conv => whnf
      exact retP (bad (badF_of (by omega)))
    have c01 : decide ((np : Int) ≤ F k 0) = false := c01
    have c01 := of_decide_eq_false c01
    conv => whnf
    refine branchI (fun c02 => ?_) (fun c02 => ?_)
    · have c02 : (F k 0 == F k 1) = true := c02
      have c02 := eq_of_beq c02
      conv => whnf
      exact retP (bad (badF_of (by omega)))
    have c02 : (F k 0 == F k 1) = false := c02
    have c02 := ne_of_beq_false c02
    conv => whnf
    refine branchI (fun c10 => ?_) (fun c10 => ?_)
    · have c10 : decide (F k 1 < 0) = true := c10
      have c10 := of_decide_eq_true c10
      conv => whnf
      exact retP (bad (badF_of (by omega)))
    have c10 : decide (F k 1 < 0) = false := c10
    have c10 := of_decide_eq_false c10
    conv => whnf
    refine branchI (fun c11 => ?_) (fun c11 => ?_)
    · have c11 : decide ((np : Int) ≤ F k 1) = true := c11
      have c11 := of_decide_eq_true c11
      conv => whnf
      exact retP (bad (badF_of (by omega)))
    have c11 : decide ((np : Int) ≤ F k 1) = false := c11
    have c11 := of_decide_eq_false c11
    conv => whnf
    refine branchI (fun c12 => ?_) (fun c12 => ?_)
    · have c12 : (F k 1 == F k 2) = true := c12
      have c12 := eq_of_beq c12
      conv => whnf
      exact retP (bad (badF_of (by omega)))
    have c12 : (F k 1 == F k 2) = false := c12
    have c12 := ne_of_beq_false c12
    conv => whnf
    refine branchI (fun c20 => ?_) (fun c20 => ?_)
    · have c20 : decide (F k 2 < 0) = true := c20
      have c20 := of_decide_eq_true c20
      conv => whnf
      exact retP (bad (badF_of (by omega)))
    have c20 : decide (F k 2 < 0) = false := c20
    have c20 := of_decide_eq_false c20
    conv => whnf
    refine branchI (fun c21 => ?_) (fun c21 => ?_)
    · have c21 : decide ((np : Int) ≤ F k 2) = true := c21
      have c21 := of_decide_eq_true c21
      conv => whnf
      exact retP (bad (badF_of (by omega)))
    have c21 : decide ((np : Int) ≤ F k 2) = false := c21
    have c21 := of_decide_eq_false c21
    conv => whnf
    refine branchI (fun c22 => ?_) (fun c22 => ?_)
    · have c22 : (F k 2 == F k 0) = true := c22
      have c22 := eq_of_beq c22
      conv => whnf
      exact retP (bad (badF_of (by omega)))
    have c22 : (F k 2 == F k 0) = false := c22
    have c22 := ne_of_beq_false c22
    have hd := good (badF_not (by omega))
    conv => whnf
    refine ⟨rfl, k + 1, [], ⟨hl2, hd⟩, by omega, rfl, ?_⟩
    repeat' constructor
    exact w64_nat (by omega)
  simp at hl2
  rw [first_end hl2] at hfk
  rw [hfk] at hS
  simp only at hS
  have hin : ∀ k, k < nf → badF np (F k 0) (F k 1) (F k 2) = false := fun k hk => first_none hfk k (Nat.zero_le _) (by omega)
  conv => whnf
  refine loop_inv Tryz.eok 220 (fun i : Nat => i ≤ nf ∧ first (fun i => flatF P (F i 0) (F i 1) (F i 2)) 0 nf = first (fun i => flatF P (F i 0) (F i 1) (F i 2)) i (nf - i)) (fun i => nf - i)
    (fun i => slots [(1, .ptr 0 0 0), (4, i64 np), (9, i64 i)] 0 93) (fun _ => [.fix 24 [rows3 np P, rows3 nf F]]) 0 [] ⟨Nat.zero_le _, rfl⟩ (by repeat' constructor) rfl ?_
  rintro m ⟨hm, hfm⟩
  conv => whnf
  refine branchI (fun hl3 => ?_) (fun hl3 => ?_)
  · simp at hl3
    rw [first_step hl3] at hfm
    conv => whnf
    first | refine callF1 (rnormal_pure np P nf F m hl3 (hin m hl3)) rfl rfl ?_ | refine ⟨_, _, callD (rnormal_pure np P nf F m hl3 (hin m hl3)) rfl (.inl rfl), ?_⟩
    conv => whnf
    refine branchI (fun hf => ?_) (fun hf => ?_)
    · have hf : flatF P (F m 0) (F m 1) (F m 2) = true := hf
      conv => whnf
      rw [if_pos hf] at hfm
      exact retP (by rw [hS, hfm])
    have hf : flatF P (F m 0) (F m 1) (F m 2) = false := hf
    rw [if_neg (by rw [hf]; simp)] at hfm
    conv => whnf
    refine ⟨rfl, m + 1, [], ⟨hl3, hfm⟩, by omega, rfl, ?_⟩
    repeat' constructor
    exact w64_nat (by omega)
  simp at hl3
  rw [first_end hl3] at hfm
  rw [hfm] at hS
  conv => whnf
  exact retP (by rw [hS])
end Go.Proofs.YtkhbmendaapojaaGreatDoor
/- Plain laws: places of edges, and the map; the faces that a list reaches. -/
namespace Go.Proofs.YtkhbmendaapojaaGreatDoor
open Go Go.Vx
theorem first_succ (p : Nat → Bool) : ∀ (c i : Nat), first p i (c + 1) = match first p i c with
    | some x => some x
    | none => if p (i + c) then some (i + c) else none
  | 0, i => by simp only [first, Nat.add_zero]
  | c + 1, i => by
    show (if p i then some i else first p (i + 1) (c + 1)) = match (if p i then some i else first p (i + 1) c) with
      | some x => some x
      | none => if p (i + (c + 1)) then some (i + (c + 1)) else none
    by_cases h : p i = true
    · rw [if_pos h, if_pos h]
    · rw [if_neg h, if_neg h, first_succ p c (i + 1), show i + 1 + c = i + (c + 1) by omega]
theorem plc_succ (F : Nat → Nat → Int) (a b : Int) (n : Nat) : plc F a b (n + 1) = match plc F a b n with
    | some x => some x
    | none => if edgeF F a b n then some n else none := by
  unfold plc
  rw [first_succ, Nat.zero_add]
theorem edgeF_iff {F : Nat → Nat → Int} {a b : Int} {n : Nat} : edgeF F a b n = true ↔ ([a, b] = [F n 0, F n 1] ∨ [a, b] = [F n 1, F n 2] ∨ [a, b] = [F n 2, F n 0]) := by
  simp only [edgeF, Bool.or_eq_true, Bool.and_eq_true, beq_iff_eq, List.cons.injEq, and_true]
  constructor
  · rintro (⟨h1, h2⟩ | ⟨h1, h2⟩ | ⟨h1, h2⟩)
    · exact .inl ⟨h1.symm, h2.symm⟩
    · exact .inr (.inl ⟨h1.symm, h2.symm⟩)
    · exact .inr (.inr ⟨h1.symm, h2.symm⟩)
  · rintro (⟨h1, h2⟩ | ⟨h1, h2⟩ | ⟨h1, h2⟩)
    · exact .inl ⟨h1.symm, h2.symm⟩
    · exact .inr (.inl ⟨h1.symm, h2.symm⟩)
    · exact .inr (.inr ⟨h1.symm, h2.symm⟩)
theorem hasM_plc (F : Nat → Nat → Int) (a b : Int) : ∀ n, hasM (mapN F n) [a, b] = (plc F a b n).isSome
  | 0 => rfl
  | n + 1 => by
    rw [plc_succ, mapN, putF, hasM_putM, hasM_putM, hasM_putM, hasM_plc F a b n]
    cases plc F a b n with
    | some x => simp
    | none =>
      cases h : edgeF F a b n with
      | true =>
        rcases edgeF_iff.1 h with h | h | h <;> simp [h]
      | false =>
        have hn : ¬ ([a, b] = [F n 0, F n 1] ∨ [a, b] = [F n 1, F n 2] ∨ [a, b] = [F n 2, F n 0]) := fun hc => by rw [edgeF_iff.2 hc] at h; cases h
        rw [decide_eq_false (fun hc => hn (.inr (.inr hc))), decide_eq_false (fun hc => hn (.inr (.inl hc))), decide_eq_false (fun hc => hn (.inl hc))]
        rfl
/-- The reference's test for an edge that comes twice. -/
def dupR (F : Nat → Nat → Int) (k : Nat) : Bool := (plc F (F k 0) (F k 1) k).isSome || ((plc F (F k 1) (F k 2) k).isSome || (plc F (F k 2) (F k 0) k).isSome)
theorem dup_eq {F : Nat → Nat → Int} {k : Nat} (h : F k 0 ≠ F k 1 ∧ F k 1 ≠ F k 2 ∧ F k 2 ≠ F k 0) : dupF F k (mapN F k) = dupR F k := by
  have e1 : decide ([F k 1, F k 2] = [F k 0, F k 1]) = false := decide_eq_false fun hc => by simp at hc; exact h.1 hc.1.symm
  have e2 : decide ([F k 2, F k 0] = [F k 1, F k 2]) = false := decide_eq_false fun hc => by simp at hc; exact h.2.1 hc.1.symm
  have e3 : decide ([F k 2, F k 0] = [F k 0, F k 1]) = false := decide_eq_false fun hc => by simp at hc; exact h.2.2 hc.1
  rw [dupF, hasM_putM, hasM_putM, hasM_putM, hasM_plc, hasM_plc, hasM_plc, e1, e2, e3, dupR, Bool.false_or, Bool.false_or, Bool.false_or, Bool.or_assoc]
def openR (F : Nat → Nat → Int) (nf k : Nat) : Bool := !(plc F (F k 1) (F k 0) nf).isSome || (!(plc F (F k 2) (F k 1) nf).isSome || !(plc F (F k 0) (F k 2) nf).isSome)
theorem open_eq {F : Nat → Nat → Int} {nf k : Nat} : openF F (mapN F nf) k = openR F nf k := by
  rw [openF, hasM_plc, hasM_plc, hasM_plc, openR, Bool.or_assoc]
theorem findM_plc {F : Nat → Nat → Int} (a b : Int) : ∀ {n : Nat}, (∀ k, k < n → dupF F k (mapN F k) = false) → findM (mapN F n) [a, b] = Option.map (fun i : Nat => (i : Int)) (plc F a b n)
  | 0, _ => rfl
  | n + 1, h => by
    have ih := findM_plc a b (n := n) fun k hk => h k (by omega)
    have hn := h n (by omega)
    rw [plc_succ, mapN, putF, findM_putM, findM_putM, findM_putM, ih]
    simp only [dupF, Bool.or_eq_false_iff, hasM_putM, decide_eq_false_iff_not] at hn
    obtain ⟨⟨n1, -, n2⟩, -, -, n3⟩ := hn
    rw [hasM_plc] at n1 n2 n3
    cases hp : plc F a b n with
    | some x =>
      have hno : ∀ c d, (plc F c d n).isSome = false → [a, b] ≠ [c, d] := by
        intro c d hc he
        simp only [List.cons.injEq, and_true] at he
        rw [← he.1, ← he.2, hp] at hc; cases hc
      rw [if_neg (hno _ _ n3), if_neg (hno _ _ n2), if_neg (hno _ _ n1)]
    | none =>
      cases he : edgeF F a b n with
      | true =>
        rcases edgeF_iff.1 he with q | q | q
        · rw [if_pos q]; by_cases q1 : [a, b] = [F n 2, F n 0]
          · rw [if_pos q1]; rfl
          · rw [if_neg q1]; split <;> rfl
        · rw [if_pos q]; split <;> rfl
        · rw [if_pos q]; rfl
      | false =>
        have hn : ¬ ([a, b] = [F n 0, F n 1] ∨ [a, b] = [F n 1, F n 2] ∨ [a, b] = [F n 2, F n 0]) := fun hc => by rw [edgeF_iff.2 hc] at he; cases he
        rw [if_neg (fun hc => hn (.inr (.inr hc))), if_neg (fun hc => hn (.inr (.inl hc))), if_neg (fun hc => hn (.inl hc))]
        rfl
theorem valOr_plc {F : Nat → Nat → Int} {a b : Int} {n : Nat} (h : ∀ k, k < n → dupF F k (mapN F k) = false) (hs : (plc F a b n).isSome = true) : valOr (mapN F n) [a, b] = placeO (plc F a b n) := by
  unfold valOr
  rw [findM_plc a b h]
  cases hp : plc F a b n with
  | none => rw [hp] at hs; cases hs
  | some x => rfl
theorem first_congr {p q : Nat → Bool} : ∀ {c i : Nat}, (∀ k, i ≤ k → k < i + c → p k = q k) → first p i c = first q i c
  | 0, _, _ => rfl
  | c + 1, i, h => by
    rw [first, first, h i (Nat.le_refl _) (by omega), first_congr (fun k h1 h2 => h k (by omega) (by omega))]

/-- What holds of the reference's list: n faces, of which k were looked at. -/
structure BInv (N : Nat → List Int) (nf : Nat) (R : Nat → Nat → Bool) (n k : Nat) (s : Nat → Nat → Int) : Prop where
  le : k ≤ n
  cnt : n + cntN R nf = nf
  dom : ∀ i, i < n → 0 ≤ s i 0 ∧ s i 0 < nf
  sure : ∀ i, i < n → Reach N (s i 0).toNat
  got : ∀ f, R f 0 = true → ∃ i, i < n ∧ (s i 0).toNat = f
  start : R 0 0 = true
  next : ∀ i, i < k → ∀ g ∈ N (s i 0).toNat, R g.toNat 0 = true
/-- In the midst of a face: the first j neighbours are reached. -/
theorem BInv.push {N nf R n k s} (h : BInv N nf R n k s) {g : Int} (hg : 0 ≤ g ∧ g < nf) (hr : Reach N g.toNat) (hn : R g.toNat 0 = false) {s1 : Nat → Nat → Int} (h1 : ∀ i, i < n → s1 i 0 = s i 0) (h2 : s1 n 0 = g) :
    BInv N nf (up2 R g.toNat 0 true) (n + 1) k s1 := by
  have hle := h.le
  refine ⟨by omega, ?_, ?_, ?_, ?_, ?_, ?_⟩
  · have := cntN_less hn (n := nf) (by omega); have := h.cnt; omega
  · intro i hi
    by_cases hin : i < n
    · rw [h1 i hin]; exact h.dom i hin
    · have : i = n := by omega
      subst this; rw [h2]; exact hg
  · intro i hi
    by_cases hin : i < n
    · rw [h1 i hin]; exact h.sure i hin
    · have : i = n := by omega
      subst this; rw [h2]; exact hr
  · intro f hf
    simp only [up2] at hf
    by_cases he : f = g.toNat
    · exact ⟨n, by omega, by rw [h2, he]⟩
    · simp [he] at hf
      obtain ⟨i, a, b⟩ := h.got f hf
      exact ⟨i, by omega, by rw [h1 i a, b]⟩
  · simp only [up2]; by_cases he : 0 = g.toNat
    · simp [← he]
    · simp [he, h.start]
  · intro i hi x hx
    rw [h1 i (by omega)] at hx
    have := h.next i hi x hx
    simp only [up2]; by_cases he : x.toNat = g.toNat
    · simp [he]
    · simp [he, this]
theorem BInv.done {N nf R n s} (h : BInv N nf R n n s) (f : Nat) : R f 0 = true ↔ Reach N f := by
  constructor
  · intro hf
    obtain ⟨i, a, b⟩ := h.got f hf
    rw [← b]; exact h.sure i a
  · intro hf
    induction hf with
    | zero => exact h.start
    | step f g _ hg ih =>
      obtain ⟨i, a, b⟩ := h.got f ih
      rw [← b] at hg
      exact h.next i a g hg
end Go.Proofs.YtkhbmendaapojaaGreatDoor
