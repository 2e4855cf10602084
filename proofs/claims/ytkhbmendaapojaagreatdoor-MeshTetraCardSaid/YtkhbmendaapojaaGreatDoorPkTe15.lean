/- The reference: Flaw. (Printed by rfgen.py.) Flaw, Check: of the program and of the reference. Lists of rows compared: slices.Equal, the reference's list; Same. (Printed by smgen.py.) few: a mesh cut short. Euler: of the program and of the reference. Numbers as the program has them: trimming, comparing. Sums as the program has them. -/
import Derived.Test.YtkhbmendaapojaaGreatDoorPkTe14
import Derived.Test.YtkhbmendaapojaaGreatDoorPkTe13
set_option linter.unusedSimpArgs false
set_option linter.unusedVariables false
/- The reference: Flaw. (Printed by rfgen.py.) -/
namespace Go.Proofs.YtkhbmendaapojaaGreatDoor
open Go Go.Vx
set_option maxRecDepth 100000
attribute [local irreducible] CallV LoopV CodeV
theorem placeO_is {o : Option Nat} {b : Bool} (h : decide (0 ≤ placeO o) = b) : o.isSome = b := by
  cases o with
  | none => rw [← h]; simp [placeO]
  | some i => rw [← h]; simp [placeO]
theorem placeO_not {o : Option Nat} {b : Bool} (h : decide (placeO o < 0) = b) : (!o.isSome) = b := by
  cases o with
  | none => rw [← h]; simp [placeO]
  | some i => rw [← h]; exact (decide_eq_false (by show ¬ ((i : Int) < 0); omega)).symm
structure BS where
  n : Nat
  k : Nat
  gi : Nat → Nat → Int
  gb : Nat → Nat → Bool
  gs : Nat → Nat → List UInt8
  R : Nat → Nat → Bool
theorem S1_lt {n i : Nat} {s : Nat → Nat → Int} {g : Int} (h : i < n) : S1 n s g i 0 = s i 0 := by
  show appF n (fun i => s (0 + i)) _ i 0 = _
  rw [appF_lt h, Nat.zero_add]
theorem S1_at {n : Nat} {s : Nat → Nat → Int} {g : Int} : S1 n s g n 0 = g := by
  show appF n (fun i => s (0 + i)) _ n 0 = _
  have : Nat.blt n n = false := by
    cases h : Nat.blt n n with
    | false => rfl
    | true => exact absurd (Nat.le_of_ble_eq_true h) (by omega)
  simp only [appF, this, Nat.sub_self]
  rfl
theorem BInv.push' {N nf R n k s} (h : BInv N nf R n k s) {g : Int} (hg : 0 ≤ g ∧ g < nf) (hr : Reach N g.toNat) (hn : (!R (0 + g.toNat) 0) = true) : BInv N nf (up2 R (0 + g.toNat) 0 true) (n + 1) k (S1 n s g) := by
  rw [Nat.zero_add] at hn ⊢
  exact h.push hg hr (by simpa using hn) (fun i hi => S1_lt hi) S1_at
theorem up_self {R : Nat → Nat → Bool} {g : Nat} : up2 R (0 + g) 0 true g 0 = true := by simp [up2]
theorem up_mono {R : Nat → Nat → Bool} {g x : Nat} (h : R x 0 = true) : up2 R (0 + g) 0 true x 0 = true := by
  simp only [up2, Nat.zero_add]
  by_cases he : x = g
  · simp [he]
  · simp [he, h]
theorem up_old {R : Nat → Nat → Bool} {x : Nat} (h : (!R (0 + x) 0) = false) : R x 0 = true := by rw [Nat.zero_add] at h; simpa using h
theorem cntN_none : ∀ {n : Nat}, cntN (fun _ _ => false) n = n
  | 0 => rfl
  | n + 1 => by simp [cntN, @cntN_none n]
theorem BInv.zero {N : Nat → List Int} {nf : Nat} (h : 0 < nf) (s : Nat → Nat → Int) (hs : s 0 0 = 0) : BInv N nf (up2 (fun _ _ => false) (0 + Int.toNat 0) 0 true) 1 0 s := by
  refine ⟨by omega, ?_, ?_, ?_, ?_, rfl, ?_⟩
  · have := cntN_less (R := fun _ _ => false) (f := 0) rfl h
    rw [cntN_none] at this
    show 1 + cntN (up2 _ 0 0 true) nf = nf
    omega
  · intro i hi; have : i = 0 := by omega
    subst this; rw [hs]; omega
  · intro i hi; have : i = 0 := by omega
    subst this; rw [hs]; exact .zero
  · intro f hf
    by_cases he : f = 0
    · subst he; exact ⟨0, by omega, by rw [hs]; rfl⟩
    · simp [up2, he] at hf
  · intro i hi; omega
theorem first_lt {p : Nat → Bool} : ∀ {c i x : Nat}, first p i c = some x → x < i + c
  | 0, _, _, h => by cases h
  | c + 1, i, x, h => by
    rw [first] at h
    split at h
    · cases h; omega
    · have := first_lt h; omega
theorem plc_lt {F : Nat → Nat → Int} {a b : Int} {n : Nat} (h : (plc F a b n).isSome = true) : 0 ≤ placeO (plc F a b n) ∧ placeO (plc F a b n) < n := by
  cases hp : plc F a b n with
  | none => rw [hp] at h; cases h
  | some x =>
    have := first_lt hp
    show (0 : Int) ≤ (x : Int) ∧ (x : Int) < n
    omega
theorem bfs_leaf {N : Nat → List Int} {nf : Nat} {R : Nat → Nat → Bool} {n k : Nat} {s : Nat → Nat → Int} {T : BS → List V} {M : BS → List Blk} {tm' : List V} {L' : List Blk} {n0 : Nat} {kk : Nat}
    (h : BInv N nf R n k s) (hk : k < n) (hlt : k < nf) {e g0 g1 g2 : Int} (hs : s k 0 = e) (hN : N e.toNat = [g0, g1, g2]) (r0 : R g0.toNat 0 = true) (r1 : R g1.toNat 0 = true) (r2 : R g2.toNat 0 = true)
    (gb : Nat → Nat → Bool) (gs : Nat → Nat → List UInt8) (xs : List Nat) (hkk : kk = k) (hbig : Nat.ble (len L') 900000 = true)
    (hle : leS n0 tm' L' (T ⟨n, k + 1, s, gb, gs, R⟩) (M ⟨n, k + 1, s, gb, gs, R⟩) xs) :
    ([] : List DV) = [] ∧ ∃ s xs, BInv N nf s.R s.n s.k s.gi ∧ nf - s.k < nf - kk ∧ Nat.ble (len L') 900000 = true ∧ leS n0 tm' L' (T s) (M s) xs := by
  subst hkk
  refine ⟨rfl, ⟨n, kk + 1, s, gb, gs, R⟩, xs, ⟨by show kk + 1 ≤ n; omega, h.cnt, h.dom, h.sure, h.got, h.start, ?_⟩, by show nf - (kk + 1) < nf - kk; omega, hbig, hle⟩
  intro i hi g hg
  have hi : i < kk + 1 := hi
  by_cases hc : i = kk
  · subst hc
    have hg : g ∈ N (s i 0).toNat := hg
    rw [hs, hN] at hg
    simp only [List.mem_cons, List.not_mem_nil, or_false] at hg
    rcases hg with rfl | rfl | rfl
    · exact r0
    · exact r1
    · exact r2
  · exact h.next i (by omega) g hg
set_option maxHeartbeats 8000000 in
theorem rflaw_pure (np : Nat) (P : Nat → Nat → Int) (nf : Nat) (F : Nat → Nat → Int) :
    Pure Tryz.prog 32 [meshV np P nf F] (fun o => o = .ret (.tup [i64 (flawS np P nf F).1, i64 (flawS np P nf F).2])) := by
  refine pure_of Tryz.func32 rfl 300 ?_
  conv => whnf
  refine callF1 (shapes_pure np P nf F) rfl rfl ?_
  conv => whnf
  refine branchI (fun h1 => ?_) (fun h1 => ?_)
  · have h1 : decide (0 < (singleS np P nf F).1) = true := h1
    conv => whnf
    exact retP (by rw [flawS, if_pos (of_decide_eq_true h1)])
  have h1 : decide (0 < (singleS np P nf F).1) = false := h1
  have h1 := of_decide_eq_false h1
  obtain ⟨⟨np1, np2⟩, ⟨nf1, nf2⟩, -, hbad, -⟩ := msingle_ok h1
  have hS : flawS np P nf F = (match first (fun i => dupR F i) 0 nf with
    | some i => (5, (i : Int))
    | none => match first (fun i => openR F nf i) 0 nf with
      | some i => (6, (i : Int))
      | none => match first (fun i => false == usedN F nf i 0) 0 np with
        | some i => (7, (i : Int))
        | none => match first (fun i => false == reachN F nf i) 0 nf with
          | some i => (8, (i : Int))
          | none => (0, 0)) := by
    rw [flawS, if_neg h1, first_congr (q := fun i => dupR F i) (fun k _ hk => dup_eq (badF_false (hbad k (by omega))).2.2.2), first_congr (q := fun i => openR F nf i) (fun k _ hk => open_eq)]
    rfl
  have hplace := fun a b n (hn : n ≤ nf) => rplace_pure np P nf F a b n hn (by omega)
  conv => whnf
  refine loop_inv Tryz.eok 250 (fun i : Nat => i ≤ nf ∧ first (fun i => dupR F i) 0 nf = first (fun i => dupR F i) i (nf - i)) (fun i => nf - i)
    (fun i => slots [(1, .ptr 0 0 0), (6, i64 nf), (7, i64 i)] 0 185) (fun i => [.fix 24 [rows3 np P, rows3 nf F]]) 0 [] ⟨Nat.zero_le _, rfl⟩ (by repeat' constructor) rfl ?_
  rintro k ⟨hk, hfk⟩
  conv => whnf
  refine branchI (fun hl => ?_) (fun hl => ?_)
  · simp at hl
    rw [first_step hl] at hfk
    have hin : (decide (0 ≤ (k : Int)) && decide ((k : Int) < (nf : Int))) = true := guardI ⟨by omega, by omega⟩
    have dup : dupR F k = true → flawS np P nf F = (5, (k : Int)) := fun hb => by rw [if_pos hb] at hfk; rw [hS, hfk]
    conv => whnf
    refine loop_unroll Tryz.eok 100 5 ?_
    conv => whnf
    refine branchT hin ?_
    conv => whnf
    refine branchT hin ?_
    conv => whnf
    first | refine callF1 (hplace _ _ k (by omega)) rfl rfl ?_ | refine ⟨_, _, callD (hplace _ _ k (by omega)) rfl (.inl rfl), ?_⟩
    conv => whnf
    refine branchI (fun d0 => ?_) (fun d0 => ?_)
    · have d0 := placeO_is (o := plc F (F k 0) (F k 1) k) d0
      conv => whnf
      exact retP (dup (by simp only [dupR, d0, Bool.true_or, Bool.or_true]))
    have d0 := placeO_is (o := plc F (F k 0) (F k 1) k) d0
    conv => whnf
    refine branchT hin ?_
    conv => whnf
    refine branchT hin ?_
    conv => whnf
    first | refine callF1 (hplace _ _ k (by omega)) rfl rfl ?_ | refine ⟨_, _, callD (hplace _ _ k (by omega)) rfl (.inl rfl), ?_⟩
    conv => whnf
    refine branchI (fun d1 => ?_) (fun d1 => ?_)
    · have d1 := placeO_is (o := plc F (F k 1) (F k 2) k) d1
      conv => whnf
      exact retP (dup (by simp only [dupR, d1, Bool.true_or, Bool.or_true]))
    have d1 := placeO_is (o := plc F (F k 1) (F k 2) k) d1
    conv => whnf
    refine branchT hin ?_
    conv => whnf
    refine branchT hin ?_
    conv => whnf
    first | refine callF1 (hplace _ _ k (by omega)) rfl rfl ?_ | refine ⟨_, _, callD (hplace _ _ k (by omega)) rfl (.inl rfl), ?_⟩
    conv => whnf
    refine branchI (fun d2 => ?_) (fun d2 => ?_)
    · have d2 := placeO_is (o := plc F (F k 2) (F k 0) k) d2
      conv => whnf
      exact retP (dup (by simp only [dupR, d2, Bool.true_or, Bool.or_true]))
    have d2 := placeO_is (o := plc F (F k 2) (F k 0) k) d2
    have hd : dupR F k = false := by simp only [dupR, d0, d1, d2, Bool.or_false]
    rw [if_neg (by rw [hd]; simp)] at hfk
    conv => whnf
    refine ⟨rfl, k + 1, [], ⟨hl, hfk⟩, by omega, rfl, ?_⟩
    repeat' constructor
    exact w64_nat (by omega)
  simp at hl
  rw [first_end hl] at hfk
  rw [hfk] at hS
  simp only at hS
  have hdup : ∀ k, k < nf → dupF F k (mapN F k) = false := fun k hk => by rw [dup_eq (badF_false (hbad k hk)).2.2.2]; exact first_none hfk k (Nat.zero_le _) (by omega)
  conv => whnf
  refine loop_inv Tryz.eok 250 (fun i : Nat => i ≤ nf ∧ first (fun i => openR F nf i) 0 nf = first (fun i => openR F nf i) i (nf - i)) (fun i => nf - i)
    (fun i => slots [(1, .ptr 0 0 0), (6, i64 nf), (9, i64 i)] 0 185) (fun i => [.fix 24 [rows3 np P, rows3 nf F]]) 0 [] ⟨Nat.zero_le _, rfl⟩ (by repeat' constructor) rfl ?_
  rintro k2 ⟨hk2, hfk2⟩
  conv => whnf
  refine branchI (fun hl2 => ?_) (fun hl2 => ?_)
  · simp at hl2
    rw [first_step hl2] at hfk2
    have hin : (decide (0 ≤ (k2 : Int)) && decide ((k2 : Int) < (nf : Int))) = true := guardI ⟨by omega, by omega⟩
    have opn : openR F nf k2 = true → flawS np P nf F = (6, (k2 : Int)) := fun hb => by rw [if_pos hb] at hfk2; rw [hS, hfk2]
    conv => whnf
    refine loop_unroll Tryz.eok 100 5 ?_
    conv => whnf
    refine branchT hin ?_
    conv => whnf
    refine branchT hin ?_
    conv => whnf
    first | refine callF1 (hplace _ _ nf (by omega)) rfl rfl ?_ | refine ⟨_, _, callD (hplace _ _ nf (by omega)) rfl (.inl rfl), ?_⟩
    conv => whnf
    refine branchI (fun d0 => ?_) (fun d0 => ?_)
    · have d0 := placeO_not (o := plc F (F k2 1) (F k2 0) nf) d0
      conv => whnf
      exact retP (opn (by simp only [openR, d0, Bool.true_or, Bool.or_true]))
    have d0 := placeO_not (o := plc F (F k2 1) (F k2 0) nf) d0
    conv => whnf
    refine branchT hin ?_
    conv => whnf
    refine branchT hin ?_
    conv => whnf
    first | refine callF1 (hplace _ _ nf (by omega)) rfl rfl ?_ | refine ⟨_, _, callD (hplace _ _ nf (by omega)) rfl (.inl rfl), ?_⟩
    conv => whnf
    refine branchI (fun d1 => ?_) (fun d1 => ?_)
    · have d1 := placeO_not (o := plc F (F k2 2) (F k2 1) nf) d1
      conv => whnf
      exact retP (opn (by simp only [openR, d1, Bool.true_or, Bool.or_true]))
    have d1 := placeO_not (o := plc F (F k2 2) (F k2 1) nf) d1
    conv => whnf
    refine branchT hin ?_
    conv => whnf
    refine branchT hin ?_
    conv => whnf
    first | refine callF1 (hplace _ _ nf (by omega)) rfl rfl ?_ | refine ⟨_, _, callD (hplace _ _ nf (by omega)) rfl (.inl rfl), ?_⟩
    conv => whnf
    refine branchI (fun d2 => ?_) (fun d2 => ?_)
    · have d2 := placeO_not (o := plc F (F k2 0) (F k2 2) nf) d2
      conv => whnf
      exact retP (opn (by simp only [openR, d2, Bool.true_or, Bool.or_true]))
    have d2 := placeO_not (o := plc F (F k2 0) (F k2 2) nf) d2
    have hd : openR F nf k2 = false := by simp only [openR, d0, d1, d2, Bool.or_false]
    rw [if_neg (by rw [hd]; simp)] at hfk2
    conv => whnf
    refine ⟨rfl, k2 + 1, [], ⟨hl2, hfk2⟩, by omega, rfl, ?_⟩
    repeat' constructor
    exact w64_nat (by omega)
  simp at hl2
  rw [first_end hl2] at hfk2
  rw [hfk2] at hS
  simp only at hS
  have hopen : ∀ k, k < nf → openR F nf k = false := fun k hk => first_none hfk2 k (Nat.zero_le _) (by omega)
  conv => whnf
  refine branchT (by rw [show (Tryz.E.T 4).bytes = 1 from rfl]; simp; omega) ?_
  conv => whnf
  refine loop_inv Tryz.eok 250 (fun i : Nat => i ≤ nf) (fun i => nf - i)
    (fun i => slots [(1, .ptr 0 0 0), (6, i64 nf), (11, .sl 1 1 0 np np), (12, i64 i)] 0 185) (fun i => [.fix 24 [rows3 np P, rows3 nf F], .arr 4 [.bool] (fun _ _ => 0) (usedN F i) (fun _ _ => [])]) 0 [] (Nat.zero_le _) (by repeat' constructor) rfl ?_
  rintro k3 hk3
  conv => whnf
  refine branchI (fun hl3 => ?_) (fun hl3 => ?_)
  · simp at hl3
    have hin : (decide (0 ≤ (k3 : Int)) && decide ((k3 : Int) < (nf : Int))) = true := guardI ⟨by omega, by omega⟩
    obtain ⟨b0, b1, b2, _⟩ := badF_false (hbad k3 hl3)
    conv => whnf
    refine loop_unroll Tryz.eok 100 5 ?_
    conv => whnf
    refine branchT hin ?_
    conv => whnf
    refine branchT (guardI b0) ?_
    conv => whnf
    refine branchT hin ?_
    conv => whnf
    refine branchT (guardI b1) ?_
    conv => whnf
    refine branchT hin ?_
    conv => whnf
    refine branchT (guardI b2) ?_
    conv => whnf
    refine ⟨rfl, k3 + 1, [], hl3, by omega, rfl, ?_⟩
    repeat' constructor
    · exact w64_nat (by omega)
    · simp only [Nat.zero_add]; rfl
  simp at hl3
  obtain rfl : nf = k3 := by omega
  conv => whnf
  refine loop_inv Tryz.eok 250 (fun i : Nat => i ≤ np ∧ first (fun i => false == usedN F nf i 0) 0 np = first (fun i => false == usedN F nf i 0) i (np - i)) (fun i => np - i)
    (fun i => slots [(1, .ptr 0 0 0), (6, i64 nf), (11, .sl 1 1 0 np np), (14, i64 i)] 0 185) (fun _ => [.fix 24 [rows3 np P, rows3 nf F], .arr 4 [.bool] (fun _ _ => 0) (usedN F nf) (fun _ _ => [])]) 0 [] ⟨Nat.zero_le _, rfl⟩ (by repeat' constructor) rfl ?_
  rintro k4 ⟨hk4, hfk4⟩
  conv => whnf
  refine branchI (fun hl4 => ?_) (fun hl4 => ?_)
  · simp at hl4
    rw [first_step hl4] at hfk4
    conv => whnf
    refine branchT (guardI ⟨by omega, by omega⟩) ?_
    conv => whnf
    refine branchI (fun u => ?_) (fun u => ?_)
    · have u : (!usedN F nf (0 + k4) 0) = true := u
      rw [Nat.zero_add] at u
      rw [if_pos (by simpa using u)] at hfk4
      conv => whnf
      exact retP (by rw [hS, hfk4])
    have u : (!usedN F nf (0 + k4) 0) = false := u
    rw [Nat.zero_add] at u
    rw [if_neg (by simpa using u)] at hfk4
    conv => whnf
    refine ⟨rfl, k4 + 1, [], ⟨hl4, hfk4⟩, by omega, rfl, ?_⟩
    repeat' constructor
    exact w64_nat (by omega)
  simp at hl4
  rw [first_end hl4] at hfk4
  rw [hfk4] at hS
  simp only at hS
  conv => whnf
  refine branchT (by rw [show (Tryz.E.T 4).bytes = 1 from rfl]; simp; omega) ?_
  conv => whnf
  refine branchT (by simp; omega) ?_
  conv => whnf
  refine loop_inv Tryz.eok 250 (fun s : BS => BInv (nb F (mapN F nf)) nf s.R s.n s.k s.gi) (fun s => nf - s.k)
    (fun s => slots [(1, .ptr 0 0 0), (6, i64 nf), (15, .sl 2 1 0 nf nf), (16, .sl 4 1 0 s.n s.n), (17, i64 s.k)] 0 185)
    (fun s => [.fix 24 [rows3 np P, rows3 nf F], .dead, .arr 4 [.bool] (fun _ _ => 0) s.R (fun _ _ => []), .dead, .arr 3 [.int .i64] s.gi s.gb s.gs])
    ⟨1, 0, fun i c => cInt (nthV [i64 0] (i * 1 + c)), fun i c => cBool (nthV [i64 0] (i * 1 + c)), fun i c => cStr (nthV [i64 0] (i * 1 + c)), up2 (fun _ _ => false) (0 + Int.toNat 0) 0 true⟩ [3] (BInv.zero (by omega) _ rfl) (by repeat' constructor) rfl ?_
  rintro ⟨n, k5, gi, gb, gs, R⟩ hI
  have hI : BInv (nb F (mapN F nf)) nf R n k5 gi := hI
  have hcn := hI.cnt
  conv => whnf
  refine branchI (fun hl5 => ?_) (fun hl5 => ?_)
  · have hl5 : decide ((k5 : Int) < (n : Int)) = true := hl5
    have hl5 := of_decide_eq_true hl5
    have hkn : k5 < n := by omega
    have he : gi k5 0 = gi (0 + k5) 0 := by rw [Nat.zero_add]
    obtain ⟨e0, e1⟩ := hI.dom k5 hkn
    rw [he] at e0 e1
    have ho := hopen (gi (0 + k5) 0).toNat (by omega)
    simp only [openR, Bool.or_eq_false_iff, Bool.not_eq_false'] at ho
    obtain ⟨o0, o1, o2⟩ := ho
    have q0 := plc_lt o0
    have q1 := plc_lt o1
    have q2 := plc_lt o2
    have hNe : nb F (mapN F nf) (gi (0 + k5) 0).toNat = [(placeO (plc F (F (gi (0 + k5) 0).toNat 1) (F (gi (0 + k5) 0).toNat 0) nf)), (placeO (plc F (F (gi (0 + k5) 0).toNat 2) (F (gi (0 + k5) 0).toNat 1) nf)), (placeO (plc F (F (gi (0 + k5) 0).toNat 0) (F (gi (0 + k5) 0).toNat 2) nf))] := by
      simp only [nb]
      rw [valOr_plc hdup o0, valOr_plc hdup o1, valOr_plc hdup o2]
    have hR := hI.sure k5 hkn
    rw [he] at hR
    have w0 : Reach (nb F (mapN F nf)) (placeO (plc F (F (gi (0 + k5) 0).toNat 1) (F (gi (0 + k5) 0).toNat 0) nf)).toNat := .step _ _ hR (by rw [hNe]; exact List.mem_cons_self)
    have w1 : Reach (nb F (mapN F nf)) (placeO (plc F (F (gi (0 + k5) 0).toNat 2) (F (gi (0 + k5) 0).toNat 1) nf)).toNat := .step _ _ hR (by rw [hNe]; exact (List.mem_cons_of_mem _ List.mem_cons_self))
    have w2 : Reach (nb F (mapN F nf)) (placeO (plc F (F (gi (0 + k5) 0).toNat 0) (F (gi (0 + k5) 0).toNat 2) nf)).toNat := .step _ _ hR (by rw [hNe]; exact (List.mem_cons_of_mem _ (List.mem_cons_of_mem _ List.mem_cons_self)))
    conv => whnf
    refine branchT (guardI ⟨by omega, by omega⟩) ?_
    conv => whnf
    refine branchT (guardI ⟨e0, e1⟩) ?_
    conv => whnf
    refine loop_unroll Tryz.eok 100 5 ?_
    conv => whnf
    first | refine callF1 (hplace _ _ nf (by omega)) rfl rfl ?_ | refine ⟨_, _, callD (hplace _ _ nf (by omega)) rfl (.inl rfl), ?_⟩
    conv => whnf
    refine branchT (guardI q0) ?_
    conv => whnf
    refine branchI (fun p0 => ?_) (fun p0 => ?_)
    · conv => whnf
      refine branchT (guardI q0) ?_
      conv => whnf
      refine branchT (fits8 (by show n + 1 ≤ 100000; omega)) ?_
      conv => whnf
      first | refine callF1 (hplace _ _ nf (by omega)) rfl rfl ?_ | refine ⟨_, _, callD (hplace _ _ nf (by omega)) rfl (.inl rfl), ?_⟩
      conv => whnf
      refine branchT (guardI q1) ?_
      conv => whnf
      refine branchI (fun p1 => ?_) (fun p1 => ?_)
      · conv => whnf
        refine branchT (guardI q1) ?_
        conv => whnf
        refine branchT (fits8 (by show n + 1 + 1 ≤ 100000; omega)) ?_
        conv => whnf
        first | refine callF1 (hplace _ _ nf (by omega)) rfl rfl ?_ | refine ⟨_, _, callD (hplace _ _ nf (by omega)) rfl (.inl rfl), ?_⟩
        conv => whnf
        refine branchT (guardI q2) ?_
        conv => whnf
        refine branchI (fun p2 => ?_) (fun p2 => ?_)
        · conv => whnf
          refine branchT (guardI q2) ?_
          conv => whnf
          refine branchT (fits8 (by show n + 1 + 1 + 1 ≤ 100000; omega)) ?_
          conv => whnf
          apply bfs_leaf (((hI.push' q0 w0 p0).push' q1 w1 p1).push' q2 w2 p2) (by omega) (by omega) ((S1_lt (by omega)).trans ((S1_lt (by omega)).trans ((S1_lt (by omega)).trans he))) hNe (up_mono (up_mono up_self)) (up_mono up_self) up_self _ _ [19] rfl rfl
          repeat' (first | with_reducible exact Nat.le_refl _ | exact w64_nat (n := k5) (by omega) | exact rfl | exact Nat.le_refl _ | refine And.intro ?_ ?_)
        · conv => whnf
          apply bfs_leaf ((hI.push' q0 w0 p0).push' q1 w1 p1) (by omega) (by omega) ((S1_lt (by omega)).trans ((S1_lt (by omega)).trans he)) hNe (up_mono up_self) up_self (up_old p2) _ _ [17] rfl rfl
          repeat' (first | with_reducible exact Nat.le_refl _ | exact w64_nat (n := k5) (by omega) | exact rfl | exact Nat.le_refl _ | refine And.intro ?_ ?_)
      · conv => whnf
        first | refine callF1 (hplace _ _ nf (by omega)) rfl rfl ?_ | refine ⟨_, _, callD (hplace _ _ nf (by omega)) rfl (.inl rfl), ?_⟩
        conv => whnf
        refine branchT (guardI q2) ?_
        conv => whnf
        refine branchI (fun p2 => ?_) (fun p2 => ?_)
        · conv => whnf
          refine branchT (guardI q2) ?_
          conv => whnf
          refine branchT (fits8 (by show n + 1 + 1 ≤ 100000; omega)) ?_
          conv => whnf
          apply bfs_leaf ((hI.push' q0 w0 p0).push' q2 w2 p2) (by omega) (by omega) ((S1_lt (by omega)).trans ((S1_lt (by omega)).trans he)) hNe (up_mono up_self) (up_mono (up_old p1)) up_self _ _ [17] rfl rfl
          repeat' (first | with_reducible exact Nat.le_refl _ | exact w64_nat (n := k5) (by omega) | exact rfl | exact Nat.le_refl _ | refine And.intro ?_ ?_)
        · conv => whnf
          apply bfs_leaf (hI.push' q0 w0 p0) (by omega) (by omega) ((S1_lt (by omega)).trans he) hNe up_self (up_old p1) (up_old p2) _ _ [15] rfl rfl
          repeat' (first | with_reducible exact Nat.le_refl _ | exact w64_nat (n := k5) (by omega) | exact rfl | exact Nat.le_refl _ | refine And.intro ?_ ?_)
    · conv => whnf
      first | refine callF1 (hplace _ _ nf (by omega)) rfl rfl ?_ | refine ⟨_, _, callD (hplace _ _ nf (by omega)) rfl (.inl rfl), ?_⟩
      conv => whnf
      refine branchT (guardI q1) ?_
      conv => whnf
      refine branchI (fun p1 => ?_) (fun p1 => ?_)
      · conv => whnf
        refine branchT (guardI q1) ?_
        conv => whnf
        refine branchT (fits8 (by show n + 1 ≤ 100000; omega)) ?_
        conv => whnf
        first | refine callF1 (hplace _ _ nf (by omega)) rfl rfl ?_ | refine ⟨_, _, callD (hplace _ _ nf (by omega)) rfl (.inl rfl), ?_⟩
        conv => whnf
        refine branchT (guardI q2) ?_
        conv => whnf
        refine branchI (fun p2 => ?_) (fun p2 => ?_)
        · conv => whnf
          refine branchT (guardI q2) ?_
          conv => whnf
          refine branchT (fits8 (by show n + 1 + 1 ≤ 100000; omega)) ?_
          conv => whnf
          apply bfs_leaf ((hI.push' q1 w1 p1).push' q2 w2 p2) (by omega) (by omega) ((S1_lt (by omega)).trans ((S1_lt (by omega)).trans he)) hNe (up_mono (up_mono (up_old p0))) (up_mono up_self) up_self _ _ [17] rfl rfl
          repeat' (first | with_reducible exact Nat.le_refl _ | exact w64_nat (n := k5) (by omega) | exact rfl | exact Nat.le_refl _ | refine And.intro ?_ ?_)
        · conv => whnf
          apply bfs_leaf (hI.push' q1 w1 p1) (by omega) (by omega) ((S1_lt (by omega)).trans he) hNe (up_mono (up_old p0)) up_self (up_old p2) _ _ [15] rfl rfl
          repeat' (first | with_reducible exact Nat.le_refl _ | exact w64_nat (n := k5) (by omega) | exact rfl | exact Nat.le_refl _ | refine And.intro ?_ ?_)
      · conv => whnf
        first | refine callF1 (hplace _ _ nf (by omega)) rfl rfl ?_ | refine ⟨_, _, callD (hplace _ _ nf (by omega)) rfl (.inl rfl), ?_⟩
        conv => whnf
        refine branchT (guardI q2) ?_
        conv => whnf
        refine branchI (fun p2 => ?_) (fun p2 => ?_)
        · conv => whnf
          refine branchT (guardI q2) ?_
          conv => whnf
          refine branchT (fits8 (by show n + 1 ≤ 100000; omega)) ?_
          conv => whnf
          apply bfs_leaf (hI.push' q2 w2 p2) (by omega) (by omega) ((S1_lt (by omega)).trans he) hNe (up_mono (up_old p0)) (up_mono (up_old p1)) up_self _ _ [15] rfl rfl
          repeat' (first | with_reducible exact Nat.le_refl _ | exact w64_nat (n := k5) (by omega) | exact rfl | exact Nat.le_refl _ | refine And.intro ?_ ?_)
        · conv => whnf
          apply bfs_leaf hI (by omega) (by omega) he hNe (up_old p0) (up_old p1) (up_old p2) _ _ [4] rfl rfl
          repeat' (first | with_reducible exact Nat.le_refl _ | exact w64_nat (n := k5) (by omega) | exact rfl | exact Nat.le_refl _ | refine And.intro ?_ ?_)
  · have hl5 : decide ((k5 : Int) < (n : Int)) = false := hl5
    have hl5 := of_decide_eq_false hl5
    have hle := hI.le
    obtain rfl : n = k5 := by omega
    have hdone : ∀ f, R f 0 = reachN F nf f := fun f => by
      rw [reachN]
      have := hI.done f
      cases h : R f 0 with
      | true => exact (@decide_eq_true _ (Classical.propDecidable _) (this.1 h)).symm
      | false => exact (@decide_eq_false _ (Classical.propDecidable _) (fun hc => by rw [this.2 hc] at h; cases h)).symm
    have hfe : (fun i => false == reachN F nf i) = fun i => false == R i 0 := funext fun f => by rw [hdone]
    rw [hfe] at hS
    conv => whnf
    refine loop_inv Tryz.eok 250 (fun i : Nat => i ≤ nf ∧ first (fun i => false == R i 0) 0 nf = first (fun i => false == R i 0) i (nf - i)) (fun i => nf - i)
      (fun i => slots [(6, i64 nf), (15, .sl 2 1 0 nf nf), (21, i64 i)] 0 185) (fun _ => [.dead, .dead, .arr 4 [.bool] (fun _ _ => 0) R (fun _ _ => []), .dead, .dead]) 0 [] ⟨Nat.zero_le _, rfl⟩ (by repeat' constructor) rfl ?_
    rintro k6 ⟨hk6, hfk6⟩
    conv => whnf
    refine branchI (fun hl6 => ?_) (fun hl6 => ?_)
    · simp at hl6
      rw [first_step hl6] at hfk6
      conv => whnf
      refine branchT (guardI ⟨by omega, by omega⟩) ?_
      conv => whnf
      refine branchI (fun u => ?_) (fun u => ?_)
      · have u : (!R (0 + k6) 0) = true := u
        rw [Nat.zero_add] at u
        rw [if_pos (by simpa using u)] at hfk6
        conv => whnf
        exact retP (by rw [hS, hfk6])
      have u : (!R (0 + k6) 0) = false := u
      rw [Nat.zero_add] at u
      rw [if_neg (by simpa using u)] at hfk6
      conv => whnf
      refine ⟨rfl, k6 + 1, [], ⟨hl6, hfk6⟩, by omega, rfl, ?_⟩
      repeat' constructor
      exact w64_nat (by omega)
    simp at hl6
    rw [first_end hl6] at hfk6
    rw [hfk6] at hS
    conv => whnf
    exact retP (by rw [hS])
end Go.Proofs.YtkhbmendaapojaaGreatDoor
/- Flaw, Check: of the program and of the reference. -/
namespace Go.Proofs.YtkhbmendaapojaaGreatDoor
open Go Go.Vx
set_option maxRecDepth 100000
attribute [local irreducible] CallV LoopV CodeV
noncomputable def checkS (np : Nat) (P : Nat → Nat → Int) (nf : Nat) (F : Nat → Nat → Int) : Int := if 0 < (flawS np P nf F).1 then 350 else 0
theorem mflaw_pure (np : Nat) (P : Nat → Nat → Int) (nf : Nat) (F : Nat → Nat → Int) :
    Pure Tryz.prog 31 [meshV np P nf F] (fun o => o = .ret (.tup [i64 (flawS np P nf F).1, i64 (flawS np P nf F).2])) := by
  refine pure_of Tryz.func31 rfl 200 ?_
  conv => whnf
  refine callS_frame (flaw_call np P nf F) [1] (by repeat' constructor) rfl rfl rfl rfl ?_
  rintro _ _ ⟨rfl, ⟨-, rfl⟩ | ⟨-, rfl⟩⟩
  · refine ⟨rfl, rfl, rfl, rfl, ?_⟩
    conv => whnf
    rfl
  · refine ⟨rfl, rfl, rfl, rfl, ?_⟩
    conv => whnf
    rfl
theorem mcheck_pure (np : Nat) (P : Nat → Nat → Int) (nf : Nat) (F : Nat → Nat → Int) :
    Pure Tryz.prog 23 [meshV np P nf F] (fun o => o = .ret (i64 (checkS np P nf F))) := by
  refine pure_of Tryz.func23 rfl 200 ?_
  conv => whnf
  refine callF1 (mflaw_pure np P nf F) rfl rfl ?_
  conv => whnf
  refine branchI (fun h => ?_) (fun h => ?_)
  · conv => whnf
    have h : decide (0 < (flawS np P nf F).1) = true := h
    exact retI (by rw [checkS, if_pos (of_decide_eq_true h)])
  · conv => whnf
    have h : decide (0 < (flawS np P nf F).1) = false := h
    exact retI (by rw [checkS, if_neg (of_decide_eq_false h)])
theorem rcheck_pure (np : Nat) (P : Nat → Nat → Int) (nf : Nat) (F : Nat → Nat → Int) :
    Pure Tryz.prog 33 [meshV np P nf F] (fun o => o = .ret (i64 (checkS np P nf F))) := by
  refine pure_of Tryz.func33 rfl 200 ?_
  conv => whnf
  refine callF1 (rflaw_pure np P nf F) rfl rfl ?_
  conv => whnf
  refine branchI (fun h => ?_) (fun h => ?_)
  · conv => whnf
    have h : decide (0 < (flawS np P nf F).1) = true := h
    exact retI (by rw [checkS, if_pos (of_decide_eq_true h)])
  · conv => whnf
    have h : decide (0 < (flawS np P nf F).1) = false := h
    exact retI (by rw [checkS, if_neg (of_decide_eq_false h)])
end Go.Proofs.YtkhbmendaapojaaGreatDoor
/- Lists of rows compared: slices.Equal, the reference's list; Same. (Printed by smgen.py.) -/
namespace Go.Proofs.YtkhbmendaapojaaGreatDoor
open Go Go.Vx
set_option maxRecDepth 100000
attribute [local irreducible] CallV LoopV CodeV
def diff3 (A B : Nat → Nat → Int) (i : Nat) : Bool := !(A i 0 == B i 0 && (A i 1 == B i 1 && (A i 2 == B i 2 && true)))
def eqRows (na : Nat) (A : Nat → Nat → Int) (nb : Nat) (B : Nat → Nat → Int) : Bool := decide (na = nb) && (first (diff3 A B) 0 na).isNone
theorem rlist_pure (na : Nat) (A : Nat → Nat → Int) (nb : Nat) (B : Nat → Nat → Int) (hn : na < 4611686018427387904) :
    Pure Tryz.prog 50 [rows3 na A, rows3 nb B] (fun o => o = .ret (.bool (eqRows na A nb B))) := by
  refine pure_of Tryz.func50 rfl 100 ?_
  conv => whnf
  refine branchI (fun h1 => ?_) (fun h1 => ?_)
  · conv => whnf
    exact retB (by simp at h1; simp [eqRows]; intro h; exact absurd h (by omega))
  simp at h1
  obtain rfl : na = nb := by omega
  conv => whnf
  refine loop_inv Tryz.eok 80 (fun i : Nat => i ≤ na ∧ first (diff3 A B) 0 na = first (diff3 A B) i (na - i)) (fun i => na - i)
    (fun i => slots [(0, rows3 na A), (1, rows3 na B), (5, i64 i)] 0 26) (fun _ => []) 0 [] ⟨Nat.zero_le _, rfl⟩ (by repeat' constructor) rfl ?_
  rintro i ⟨hi, hf⟩
  conv => whnf
  refine branchI (fun hl => ?_) (fun hl => ?_)
  · simp at hl
    rw [first_step hl] at hf
    conv => whnf
    refine branchT (guardI ⟨by omega, by omega⟩) ?_
    conv => whnf
    refine branchT (guardI ⟨by omega, by omega⟩) ?_
    conv => whnf
    refine branchI (fun h => ?_) (fun h => ?_)
    · have h : diff3 A B i = true := h
      rw [if_pos h] at hf
      conv => whnf
      exact retB (by simp [eqRows, hf])
    have h : diff3 A B i = false := h
    rw [if_neg (by rw [h]; simp)] at hf
    conv => whnf
    refine ⟨rfl, i + 1, [], ⟨hl, hf⟩, by omega, rfl, ?_⟩
    repeat' constructor
    exact w64_nat (by omega)
  simp at hl
  rw [first_end hl] at hf
  conv => whnf
  exact retB (by simp [eqRows, hf])
theorem equal_pure (na : Nat) (A : Nat → Nat → Int) (nb : Nat) (B : Nat → Nat → Int) (hn : na < 4611686018427387904) :
    Pure Tryz.prog 59 [rows3 na A, rows3 nb B] (fun o => o = .ret (.bool (eqRows na A nb B))) := by
  refine pure_of Tryz.func59 rfl 100 ?_
  conv => whnf
  refine branchI (fun h1 => ?_) (fun h1 => ?_)
  · conv => whnf
    exact retB (by simp at h1; simp [eqRows]; intro h; exact absurd h (by omega))
  simp at h1
  obtain rfl : na = nb := by omega
  conv => whnf
  refine loop_inv Tryz.eok 80 (fun i : Nat => i ≤ na ∧ first (diff3 A B) 0 na = first (diff3 A B) i (na - i)) (fun i => na - i)
    (fun i => slots [(0, rows3 na A), (1, rows3 na B), (12, i64 na), (13, i64 i)] 0 26) (fun _ => []) 0 [] ⟨Nat.zero_le _, rfl⟩ (by repeat' constructor) rfl ?_
  rintro i ⟨hi, hf⟩
  conv => whnf
  refine branchI (fun hl => ?_) (fun hl => ?_)
  · simp at hl
    rw [first_step hl] at hf
    conv => whnf
    refine branchT (guardI ⟨by omega, by omega⟩) ?_
    conv => whnf
    refine branchT (guardI ⟨by omega, by omega⟩) ?_
    conv => whnf
    refine branchI (fun h => ?_) (fun h => ?_)
    · have h : diff3 A B i = true := h
      rw [if_pos h] at hf
      conv => whnf
      exact retB (by simp [eqRows, hf])
    have h : diff3 A B i = false := h
    rw [if_neg (by rw [h]; simp)] at hf
    conv => whnf
    refine ⟨rfl, i + 1, [], ⟨hl, hf⟩, by omega, rfl, ?_⟩
    repeat' constructor
    exact w64_nat (by omega)
  simp at hl
  rw [first_end hl] at hf
  conv => whnf
  exact retB (by simp [eqRows, hf])
def sameS (np : Nat) (P : Nat → Nat → Int) (nf : Nat) (F : Nat → Nat → Int) (np' : Nat) (P' : Nat → Nat → Int) (nf' : Nat) (F' : Nat → Nat → Int) : Bool := eqRows np P np' P' && eqRows nf F nf' F'
theorem msame_pure (np : Nat) (P : Nat → Nat → Int) (nf : Nat) (F : Nat → Nat → Int) (np' : Nat) (P' : Nat → Nat → Int) (nf' : Nat) (F' : Nat → Nat → Int) (h1 : np < 4611686018427387904) (h2 : nf < 4611686018427387904) :
    Pure Tryz.prog 34 [meshV np P nf F, meshV np' P' nf' F'] (fun o => o = .ret (.bool (sameS np P nf F np' P' nf' F'))) := by
  refine pure_of Tryz.func34 rfl 100 ?_
  conv => whnf
  first | refine callF1 (equal_pure np P np' P' (by omega)) rfl rfl ?_ | refine ⟨_, _, callD (equal_pure np P np' P' (by omega)) rfl (.inl rfl), ?_⟩
  conv => whnf
  refine branchI (fun h => ?_) (fun h => ?_)
  · have h : eqRows np P np' P' = true := h
    conv => whnf
    first | refine callF1 (equal_pure nf F nf' F' (by omega)) rfl rfl ?_ | refine ⟨_, _, callD (equal_pure nf F nf' F' (by omega)) rfl (.inl rfl), ?_⟩
    conv => whnf
    exact retB (by simp only [sameS, h, Bool.true_and]; rfl)
  · have h : eqRows np P np' P' = false := h
    conv => whnf
    exact retB (by simp only [sameS, h, Bool.false_and])
theorem rsame_pure (np : Nat) (P : Nat → Nat → Int) (nf : Nat) (F : Nat → Nat → Int) (np' : Nat) (P' : Nat → Nat → Int) (nf' : Nat) (F' : Nat → Nat → Int) (h1 : np < 4611686018427387904) (h2 : nf < 4611686018427387904) :
    Pure Tryz.prog 20 [meshV np P nf F, meshV np' P' nf' F'] (fun o => o = .ret (.bool (sameS np P nf F np' P' nf' F'))) := by
  refine pure_of Tryz.func20 rfl 100 ?_
  conv => whnf
  first | refine callF1 (rlist_pure np P np' P' (by omega)) rfl rfl ?_ | refine ⟨_, _, callD (rlist_pure np P np' P' (by omega)) rfl (.inl rfl), ?_⟩
  conv => whnf
  refine branchI (fun h => ?_) (fun h => ?_)
  · have h : eqRows np P np' P' = true := h
    conv => whnf
    first | refine callF1 (rlist_pure nf F nf' F' (by omega)) rfl rfl ?_ | refine ⟨_, _, callD (rlist_pure nf F nf' F' (by omega)) rfl (.inl rfl), ?_⟩
    conv => whnf
    exact retB (by simp only [sameS, h, Bool.true_and]; rfl)
  · have h : eqRows np P np' P' = false := h
    conv => whnf
    exact retB (by simp only [sameS, h, Bool.false_and])
end Go.Proofs.YtkhbmendaapojaaGreatDoor
/- few: a mesh cut short. -/
namespace Go.Proofs.YtkhbmendaapojaaGreatDoor
open Go Go.Vx
set_option maxRecDepth 100000
attribute [local irreducible] CallV LoopV CodeV
def cutN (m n : Nat) : Nat := if m < n then m else n
theorem cutN_eq (m n : Nat) : (if (m : Int) < (n : Int) then (m : Int) else (n : Int)).toNat = cutN m n := by
  unfold cutN; by_cases h : m < n
  · rw [if_pos h, if_pos (by omega)]; rfl
  · rw [if_neg h, if_neg (by omega)]; rfl
theorem few_pure (np : Nat) (P : Nat → Nat → Int) (nf : Nat) (F : Nat → Nat → Int) :
    Pure Tryz.prog 37 [meshV np P nf F] (fun o => o = .ret (meshV (cutN 30 np) P (cutN 30 nf) F)) := by
  refine pure_of Tryz.func37 rfl 100 ?_
  conv => whnf
  refine branchT (by simp; split <;> omega) ?_
  conv => whnf
  refine branchT (by simp; split <;> omega) ?_
  conv => whnf
  refine retV ?_
  show V.agg [V.ro 3 ((if ((30 : Nat) : Int) < (np : Int) then ((30 : Nat) : Int) else (np : Int)).toNat - 0) (fun i => [i64 (P (0 + i) 0), i64 (P (0 + i) 1), i64 (P (0 + i) 2)]),
    V.ro 3 ((if ((30 : Nat) : Int) < (nf : Int) then ((30 : Nat) : Int) else (nf : Int)).toNat - 0) (fun i => [i64 (F (0 + i) 0), i64 (F (0 + i) 1), i64 (F (0 + i) 2)])] = _
  rw [cutN_eq, cutN_eq]
  simp only [Nat.zero_add, Nat.sub_zero]
end Go.Proofs.YtkhbmendaapojaaGreatDoor
/- Euler: of the program and of the reference. -/
namespace Go.Proofs.YtkhbmendaapojaaGreatDoor
open Go Go.Vx
set_option maxRecDepth 100000
attribute [local irreducible] CallV LoopV CodeV
theorem flaw_ok {np : Nat} {P : Nat → Nat → Int} {nf : Nat} {F : Nat → Nat → Int} (h : ¬ 0 < (flawS np P nf F).1) : ¬ 0 < (singleS np P nf F).1 ∧ (∀ k, k < nf → dupF F k (mapN F k) = false) := by
  unfold flawS at h
  split at h
  · rename_i h1; exact absurd h1 h
  rename_i h1
  refine ⟨h1, ?_⟩
  split at h
  · exact absurd (by simp) h
  rename_i h2
  exact fun k hk => first_none h2 k (Nat.zero_le _) (by omega)
theorem putM_len {m : List (List Int × Int)} {k : List Int} {v : Int} (h : hasM m k = false) : (putM m k v).length = m.length + 1 := by
  unfold hasM at h
  split at h
  · cases h
  · rename_i hn
    rw [(putM_none v hn).1]; simp
theorem mapN_len {F : Nat → Nat → Int} : ∀ {n : Nat}, (∀ k, k < n → dupF F k (mapN F k) = false) → (mapN F n).length = 3 * n
  | 0, _ => rfl
  | n + 1, h => by
    have hn := h n (by omega)
    simp only [dupF, Bool.or_eq_false_iff] at hn
    rw [mapN, putF, putM_len hn.2, putM_len hn.1.2, putM_len hn.1.1, mapN_len (fun k hk => h k (by omega))]
    omega
theorem half_eq {x : Int} {n : Nat} (hx : x = (n : Int)) (hn : n < 100000) : w64 (x.tdiv 2) = ((n / 2 : Nat) : Int) := by
  subst hx
  have : ((n : Int).tdiv 2) = ((n / 2 : Nat) : Int) := by rw [Int.tdiv_eq_ediv_of_nonneg (by omega)]; omega
  rw [this]; exact w64_in (by omega)
noncomputable def eulerS (np : Nat) (P : Nat → Nat → Int) (nf : Nat) (F : Nat → Nat → Int) : V :=
  if 0 < (flawS np P nf F).1 then .tup [i64 0, i64 0, i64 350] else .tup [i64 (3 * nf / 2 : Nat), i64 ((np : Int) - (3 * nf / 2 : Nat) + nf), i64 0]
theorem reuler_pure (np : Nat) (P : Nat → Nat → Int) (nf : Nat) (F : Nat → Nat → Int) :
    Pure Tryz.prog 14 [meshV np P nf F] (fun o => o = .ret (eulerS np P nf F)) := by
  refine pure_of Tryz.func14 rfl 200 ?_
  conv => whnf
  refine callF1 (rcheck_pure np P nf F) rfl rfl ?_
  conv => whnf
  refine branchI (fun h => ?_) (fun h => ?_)
  · have h : (!(checkS np P nf F == 0)) = true := h
    conv => whnf
    have hf : 0 < (flawS np P nf F).1 := by
      apply Classical.byContradiction
      intro hc
      rw [checkS, if_neg hc] at h
      cases h
    refine retV ?_
    show V.tup [i64 0, i64 0, i64 (checkS np P nf F)] = _
    rw [eulerS, if_pos hf, checkS, if_pos hf]
  · have h : (!(checkS np P nf F == 0)) = false := h
    have hf : ¬ 0 < (flawS np P nf F).1 := by
      intro hc
      rw [checkS, if_pos hc] at h
      cases h
    obtain ⟨h1, h2⟩ := flaw_ok hf
    obtain ⟨⟨np1, np2⟩, ⟨nf1, nf2⟩, -⟩ := msingle_ok h1
    have a1 : w64 (3 * (nf : Int)) = ((3 * nf : Nat) : Int) := (w64_in (by omega)).trans (by omega)
    have a2 : w64 ((w64 (3 * (nf : Int))).tdiv 2) = ((3 * nf / 2 : Nat) : Int) := half_eq a1 (by omega)
    conv => whnf
    refine retV ?_
    show V.tup [i64 (w64 ((w64 (3 * (nf : Int))).tdiv 2)), i64 (w64 (w64 ((np : Int) - w64 ((w64 (3 * (nf : Int))).tdiv 2)) + nf)), i64 0] = _
    rw [eulerS, if_neg hf, a2, show w64 ((np : Int) - ((3 * nf / 2 : Nat) : Int)) = (np : Int) - ((3 * nf / 2 : Nat) : Int) from w64_in (by omega), show w64 ((np : Int) - ((3 * nf / 2 : Nat) : Int) + nf) = (np : Int) - ((3 * nf / 2 : Nat) : Int) + nf from w64_in (by omega)]
theorem meuler_pure (np : Nat) (P : Nat → Nat → Int) (nf : Nat) (F : Nat → Nat → Int) :
    Pure Tryz.prog 13 [meshV np P nf F] (fun o => o = .ret (eulerS np P nf F)) := by
  refine pure_of Tryz.func13 rfl 200 ?_
  conv => whnf
  refine callS_frame (flaw_call np P nf F) [1] (by repeat' constructor) rfl rfl rfl rfl ?_
  rintro _ _ ⟨rfl, ⟨h1, rfl⟩ | ⟨h0, rfl⟩⟩
  · refine ⟨rfl, rfl, rfl, rfl, ?_⟩
    conv => whnf
    refine branchI (fun h => ?_) (fun h => ?_)
    · have h : decide (0 < (flawS np P nf F).1) = true := h
      conv => whnf
      refine retV ?_
      show V.tup [i64 0, i64 0, i64 350] = _
      rw [eulerS, if_pos (of_decide_eq_true h)]
    · have h : decide (0 < (flawS np P nf F).1) = false := h
      exact absurd h1 (of_decide_eq_false h)
  · have hf : ¬ 0 < (flawS np P nf F).1 := by omega
    refine ⟨rfl, rfl, rfl, rfl, ?_⟩
    conv => whnf
    refine branchI (fun h => ?_) (fun h => ?_)
    · have h : decide (0 < (flawS np P nf F).1) = true := h
      exact absurd (of_decide_eq_true h) hf
    obtain ⟨h1, h2⟩ := flaw_ok hf
    obtain ⟨⟨np1, np2⟩, ⟨nf1, nf2⟩, -⟩ := msingle_ok h1
    have a1 : (((mapN F nf).length : Nat) : Int) = ((3 * nf : Nat) : Int) := by rw [mapN_len h2]
    have a2 : w64 ((((mapN F nf).length : Nat) : Int).tdiv 2) = ((3 * nf / 2 : Nat) : Int) := half_eq a1 (by omega)
    conv => whnf
    refine retV ?_
    show V.tup [i64 (w64 ((((mapN F nf).length : Nat) : Int).tdiv 2)), i64 (w64 (w64 ((np : Int) - w64 ((((mapN F nf).length : Nat) : Int).tdiv 2)) + nf)), i64 0] = _
    rw [eulerS, if_neg hf, a2, show w64 ((np : Int) - ((3 * nf / 2 : Nat) : Int)) = (np : Int) - ((3 * nf / 2 : Nat) : Int) from w64_in (by omega), show w64 ((np : Int) - ((3 * nf / 2 : Nat) : Int) + nf) = (np : Int) - ((3 * nf / 2 : Nat) : Int) + nf from w64_in (by omega)]
end Go.Proofs.YtkhbmendaapojaaGreatDoor
/- Numbers as the program has them: trimming, comparing. -/
namespace Go.Proofs.YtkhbmendaapojaaGreatDoor
open Go Go.Vx Go.Num
set_option maxRecDepth 100000
attribute [local irreducible] CallV LoopV CodeV
theorem w64_pred {k : Nat} (h : 0 < k) (h2 : k < 4611686018427387904) : IntKind.i64.wrap ((k : Int) - 1) = ((k - 1 : Nat) : Int) := by rw [w64_in (by omega)]; omega
theorem trim_pure (n : Nat) (g : Nat → Int) (hn : n < 4611686018427387904) : Pure Tryz.prog 85 [rowU n g] (fun o => o = .ret (rowU (trimN g n) g)) := by
  refine pure_of Tryz.func85 rfl 100 ?_
  conv => whnf
  refine loop_inv Tryz.eok 80 (fun k : Nat => k ≤ n ∧ trimN g n = trimN g k) (fun k => k)
    (fun k => slots [(0, rowU n g), (3, i64 k)] 0 21) (fun _ => []) n [] ⟨Nat.le_refl _, rfl⟩ (by repeat' constructor) rfl ?_
  rintro k ⟨hk, hf⟩
  have fin : trimN g n = k → Out.ret (rowU k g) = Out.ret (rowU (trimN g n) g) := fun h => by rw [h]
  conv => whnf
  refine branchI (fun h1 => ?_) (fun h1 => ?_)
  · simp at h1
    obtain ⟨j, rfl⟩ : ∃ j, k = j + 1 := ⟨k - 1, by omega⟩
    have hw : IntKind.i64.wrap (((j + 1 : Nat) : Int) - 1) = (j : Int) := by rw [w64_in (by omega)]; omega
    conv => whnf
    refine branchT (by rw [hw]; exact guardI (by omega)) ?_
    conv => whnf
    refine branchI (fun h2 => ?_) (fun h2 => ?_)
    · have h2 : (g (IntKind.i64.wrap (((j + 1 : Nat) : Int) - 1)).toNat == 0) = true := h2
      rw [hw] at h2
      have h2 : g j = 0 := by simpa using h2
      rw [trimN, if_pos h2] at hf
      conv => whnf
      refine ⟨rfl, j, [], ⟨by omega, hf⟩, by omega, rfl, ?_⟩
      repeat' constructor
      exact hw
    · have h2 : (g (IntKind.i64.wrap (((j + 1 : Nat) : Int) - 1)).toNat == 0) = false := h2
      rw [hw] at h2
      have h2 : g j ≠ 0 := by simpa using h2
      rw [trimN, if_neg h2] at hf
      conv => whnf
      refine branchT (by simp; omega) ?_
      conv => whnf
      refine (retV ?_).trans (fin hf)
      simp
      rfl
  · simp at h1
    subst h1
    conv => whnf
    refine (retV ?_).trans (fin hf)
    simp
    rfl
/-- A number of the program's. -/
abbrev massV (n : Nat) : V := rowU (nl 1000000000000000000 n) (fun i => (dg 1000000000000000000 n i : Int))
theorem trim_mass {n k : Nat} {g : Nat → Int} (hg : g = fun i => (dg 1000000000000000000 n i : Int)) (hn : n < 1000000000000000000 ^ k) (hk : k < 4611686018427387904) {Ws : List V} (hW : Ws = [rowU k g]) :
    Pure Tryz.prog 85 Ws (fun o => o = .ret (massV n)) := by
  subst hW; subst hg
  have := trim_pure k (fun i => (dg 1000000000000000000 n i : Int)) hk
  rwa [trimN_dg (by omega) (fun _ _ => rfl) hn] at this
def cmpS (x y : Nat) : Int :=
  if nl 1000000000000000000 x ≠ nl 1000000000000000000 y then (nl 1000000000000000000 x : Int) - nl 1000000000000000000 y else if x < y then -1 else if y < x then 1 else 0
theorem cmp_pure (x y : Nat) (hx : nl 1000000000000000000 x < 4611686018427387904) (hy : nl 1000000000000000000 y < 4611686018427387904) :
    Pure Tryz.prog 122 [massV x, massV y] (fun o => o = .ret (i64 (cmpS x y))) := by
  refine pure_of Tryz.func122 rfl 100 ?_
  conv => whnf
  refine branchI (fun h1 => ?_) (fun h1 => ?_)
  · have h1 : (!((nl 1000000000000000000 x : Int) == nl 1000000000000000000 y)) = true := h1
    conv => whnf
    have hne : nl 1000000000000000000 x ≠ nl 1000000000000000000 y := fun he => by rw [he] at h1; simp at h1
    exact retI (by rw [w64_in (by omega), cmpS, if_pos hne])
  have h1 : (!((nl 1000000000000000000 x : Int) == nl 1000000000000000000 y)) = false := h1
  have he : nl 1000000000000000000 x = nl 1000000000000000000 y := by simp at h1; omega
  have hS : cmpS x y = if x < y then -1 else if y < x then 1 else 0 := by rw [cmpS, if_neg (by simp [he])]
  conv => whnf
  refine loop_inv Tryz.eok 80 (fun k : Nat => k ≤ nl 1000000000000000000 x ∧ x / 1000000000000000000 ^ k = y / 1000000000000000000 ^ k) (fun k => k)
    (fun k => slots [(0, massV x), (1, massV y), (5, i64 ((k : Int) - 1))] 0 43) (fun _ => []) (nl 1000000000000000000 x) [] ⟨Nat.le_refl _, ?_⟩ ?_ rfl ?_
  · rw [Nat.div_eq_of_lt (lt_pow_nl (by omega) x), he, Nat.div_eq_of_lt (lt_pow_nl (by omega) y)]
  · repeat' constructor
    exact w64_in (by omega)
  rintro k ⟨hk, hf⟩
  conv => whnf
  refine branchI (fun h1 => ?_) (fun h1 => ?_)
  · simp at h1
    obtain ⟨j, rfl⟩ : ∃ j, k = j + 1 := ⟨k - 1, by omega⟩
    have hw : ((j + 1 : Nat) : Int) - 1 = (j : Int) := by omega
    have hg1 : (decide (0 ≤ ((j + 1 : Nat) : Int) - 1) && decide (((j + 1 : Nat) : Int) - 1 < ((nl 1000000000000000000 x : Nat) : Int))) = true := by rw [hw]; exact guardI (by omega)
    have hg2 : (decide (0 ≤ ((j + 1 : Nat) : Int) - 1) && decide (((j + 1 : Nat) : Int) - 1 < ((nl 1000000000000000000 y : Nat) : Int))) = true := by rw [hw]; exact guardI (by omega)
    have dj : ∀ z : Nat, ((dg 1000000000000000000 z (((j + 1 : Nat) : Int) - 1).toNat : Nat) : Int) = (dg 1000000000000000000 z j : Nat) := fun z => by rw [hw]; rfl
    conv => whnf
    refine branchT hg1 ?_
    conv => whnf
    refine branchT hg2 ?_
    conv => whnf
    refine branchI (fun h2 => ?_) (fun h2 => ?_)
    · have h2 : decide (((dg 1000000000000000000 x (((j + 1 : Nat) : Int) - 1).toNat : Nat) : Int) < ((dg 1000000000000000000 y (((j + 1 : Nat) : Int) - 1).toNat : Nat) : Int)) = true := h2
      rw [dj, dj] at h2
      have h2 := of_decide_eq_true h2
      conv => whnf
      exact retI (by rw [hS, if_pos (lt_of_dg (by omega) hf (by omega))])
    have h2 : decide (((dg 1000000000000000000 x (((j + 1 : Nat) : Int) - 1).toNat : Nat) : Int) < ((dg 1000000000000000000 y (((j + 1 : Nat) : Int) - 1).toNat : Nat) : Int)) = false := h2
    rw [dj, dj] at h2
    have h2 := of_decide_eq_false h2
    conv => whnf
    refine branchT hg1 ?_
    conv => whnf
    refine branchT hg2 ?_
    conv => whnf
    refine branchI (fun h3 => ?_) (fun h3 => ?_)
    · have h3 : decide (((dg 1000000000000000000 y (((j + 1 : Nat) : Int) - 1).toNat : Nat) : Int) < ((dg 1000000000000000000 x (((j + 1 : Nat) : Int) - 1).toNat : Nat) : Int)) = true := h3
      rw [dj, dj] at h3
      have h3 := of_decide_eq_true h3
      have := lt_of_dg (b := 1000000000000000000) (by omega) hf.symm (show dg 1000000000000000000 y j < dg 1000000000000000000 x j by omega)
      conv => whnf
      exact retI (by rw [hS, if_neg (by omega), if_pos this])
    have h3 : decide (((dg 1000000000000000000 y (((j + 1 : Nat) : Int) - 1).toNat : Nat) : Int) < ((dg 1000000000000000000 x (((j + 1 : Nat) : Int) - 1).toNat : Nat) : Int)) = false := h3
    rw [dj, dj] at h3
    have h3 := of_decide_eq_false h3
    conv => whnf
    refine ⟨rfl, j, [], ⟨by omega, (div_eq_iff_dg hf).2 (by omega)⟩, by omega, rfl, ?_⟩
    repeat' constructor
    show IntKind.i64.wrap (((j + 1 : Nat) : Int) - 1 - 1) = (j : Int) - 1
    rw [hw]; exact w64_in (by omega)
  · simp at h1
    obtain rfl : k = 0 := by omega
    have hxy : x = y := by simpa using hf
    conv => whnf
    exact retI (by rw [hS, hxy, if_neg (by omega), if_neg (by omega)])
end Go.Proofs.YtkhbmendaapojaaGreatDoor
/- Sums as the program has them. -/
namespace Go.Proofs.YtkhbmendaapojaaGreatDoor
open Go Go.Vx Go.Num
set_option maxRecDepth 100000
attribute [local irreducible] CallV LoopV CodeV
/-- A row of integers as a block has it. -/
def gU (G : Nat → Int) : Nat → Nat → Int := fun i c => if c = 0 then G i else 0
theorem gU_row (k : IntKind) (n : Nat) (G : Nat → Int) : V.ro 1 n (fun i => [.int k (gU G (0 + i) 0)]) = V.ro 1 n (fun i => [.int k (G i)]) := by simp only [Nat.zero_add]; rfl
theorem gU_at (G : Nat → Int) (i : Nat) : gU G (0 + i) 0 = G i := by rw [Nat.zero_add]; rfl
theorem gU_up (G : Nat → Int) (i : Nat) (v : Int) : up2 (gU G) (0 + i) 0 v = gU (fun j => if j = i then v else G j) := by
  funext j c
  rw [Nat.zero_add]
  unfold up2 gU
  by_cases h1 : j = i <;> by_cases h2 : c = 0 <;> simp [h1, h2]
theorem gU_zero : (fun _ _ => 0 : Nat → Nat → Int) = gU (fun _ => 0) := by funext i c; unfold gU; split <;> rfl
theorem gU_cp (k : IntKind) (m : Nat) (f : Nat → Int) (G : Nat → Int) : cpF 0 m (gU G) (fun i c => cInt (nthV [.int k (f i)] c)) = gU (fun i => if i < m then f i else G i) := by
  funext i c
  unfold cpF gU
  have h1 : Nat.ble 0 i = true := Nat.ble_eq.mpr (Nat.zero_le i)
  rw [h1]
  cases h : Nat.blt (i - 0) m with
  | true =>
    have : i < m := by have := Nat.le_of_ble_eq_true h; omega
    simp only [this, if_true]
    cases c with
    | zero => rfl
    | succ c => rfl
  | false =>
    have : ¬ i < m := fun hc => by
      have : Nat.blt (i - 0) m = true := Nat.ble_eq.mpr (by omega)
      rw [this] at h; cases h
    simp only [this, if_false]
theorem gU_congr {F G : Nat → Int} (h : ∀ i, F i = G i) : gU F = gU G := by rw [funext h]
theorem u64_in {x : Int} (h : 0 ≤ x ∧ x < 18446744073709551616) : IntKind.u64.wrap x = x := by
  unfold IntKind.wrap
  simp [IntKind.bits, IntKind.signed]
  omega
/-- What lies beside the integers of a copied row. -/
abbrev cpB (k : IntKind) (m : Nat) (f : Nat → Int) : Nat → Nat → Bool := cpF 0 m (fun _ _ => false) (fun i c => cBool (nthV [.int k (f i)] c))
abbrev cpS (k : IntKind) (m : Nat) (f : Nat → Int) : Nat → Nat → List UInt8 := cpF 0 m (fun _ _ => []) (fun i c => cStr (nthV [.int k (f i)] c))
def pl1 (x y i j : Nat) : Int := if j < i then (dg 1000000000000000000 x j + dg 1000000000000000000 y j : Nat) else (dg 1000000000000000000 x j : Nat)
def pl2 (x y i j : Nat) : Int :=
  if j < i then (dg 1000000000000000000 (x + y) j : Nat) else if j = i then (dg 1000000000000000000 x j + dg 1000000000000000000 y j + carry 1000000000000000000 x y i : Nat) else (dg 1000000000000000000 x j + dg 1000000000000000000 y j : Nat)
theorem plus_pure (x y : Nat) (hx : nl 1000000000000000000 x < 1000000000) (hy : nl 1000000000000000000 y < 1000000000) :
    Pure Tryz.prog 121 [massV x, massV y] (fun o => o = .ret (massV (x + y))) := by
  refine pure_of Tryz.func121 rfl 200 ?_
  obtain ⟨m, hm⟩ : ∃ m : Nat, m = if nl 1000000000000000000 x < nl 1000000000000000000 y then nl 1000000000000000000 y else nl 1000000000000000000 x := ⟨_, rfl⟩
  have hm1 : nl 1000000000000000000 x ≤ m ∧ nl 1000000000000000000 y ≤ m ∧ m < 1000000000 := by rw [hm]; split <;> omega
  have hL : IntKind.i64.wrap ((if (nl 1000000000000000000 x : Int) < (nl 1000000000000000000 y : Int) then (nl 1000000000000000000 y : Int) else (nl 1000000000000000000 x : Int)) + 1) = ((m + 1 : Nat) : Int) := by
    have : (if (nl 1000000000000000000 x : Int) < (nl 1000000000000000000 y : Int) then (nl 1000000000000000000 y : Int) else (nl 1000000000000000000 x : Int)) = (m : Int) := by rw [hm]; split <;> split <;> omega
    rw [this]; exact w64_nat (by omega)
  clear hm
  have hxm : x < 1000000000000000000 ^ m := Nat.lt_of_lt_of_le (lt_pow_nl (by omega) x) (Nat.pow_le_pow_right (by omega) hm1.1)
  have hym : y < 1000000000000000000 ^ m := Nat.lt_of_lt_of_le (lt_pow_nl (by omega) y) (Nat.pow_le_pow_right (by omega) hm1.2.1)
  conv => whnf
  refine branchT (by rw [hL, show (Tryz.E.T 133).bytes = 8 from rfl]; simp; omega) ?_
  conv => whnf
  refine ⟨fun i hi => rfl, ?_⟩
  conv => whnf
  refine branchT (by rw [hL]; simp; omega) ?_
  conv => whnf
  refine loop_inv Tryz.eok 180 (fun i : Nat => i ≤ nl 1000000000000000000 y) (fun i => nl 1000000000000000000 y - i)
    (fun i => slots [(5, .sl 0 1 0 (m + 1) (m + 1)), (19, massV y), (20, i64 (nl 1000000000000000000 y)), (21, i64 i)] 0 61)
    (fun i => [.arr 133 [.int .u64] (gU (pl1 x y i)) (cpB .u64 (nl 1000000000000000000 x) (fun i => (dg 1000000000000000000 x i : Nat))) (cpS .u64 (nl 1000000000000000000 x) (fun i => (dg 1000000000000000000 x i : Nat)))]) 0 [] (Nat.zero_le _) ?_ rfl ?_
  · repeat' constructor
    · rw [hL]; rfl
    · rw [hL]; exact Nat.le_refl _
    · show cpF 0 (nl 1000000000000000000 x) (fun _ _ => 0) (fun i c => cInt (nthV [.int .u64 (dg 1000000000000000000 x i : Nat)] c)) = _
      rw [gU_zero, gU_cp]
      refine gU_congr fun i => ?_
      unfold pl1
      rw [if_neg (Nat.not_lt_zero i)]
      split
      · rfl
      · rw [dg_ge (by omega) (by omega)]; rfl
  intro i hi
  conv => whnf
  refine branchI (fun h1 => ?_) (fun h1 => ?_)
  · simp at h1
    have key : up2 (gU (pl1 x y i)) (0 + i) 0 (IntKind.u64.wrap (gU (pl1 x y i) (0 + i) 0 + (dg 1000000000000000000 y i : Nat))) = gU (pl1 x y (i + 1)) := by
      rw [gU_at, gU_up]
      refine gU_congr fun j => ?_
      have d1 := dg_lt (b := 1000000000000000000) (by omega) x i
      have d2 := dg_lt (b := 1000000000000000000) (by omega) y i
      unfold pl1
      by_cases hj : j = i
      · subst hj
        rw [if_pos rfl, if_neg (Nat.lt_irrefl _), if_pos (by omega), u64_in (by omega)]; omega
      · rw [if_neg hj]
        by_cases hj2 : j < i
        · rw [if_pos hj2, if_pos (by omega)]
        · rw [if_neg hj2, if_neg (by omega)]
    conv => whnf
    refine branchT (guardI (by omega)) ?_
    conv => whnf
    refine branchT (guardI (by omega)) ?_
    conv => whnf
    refine branchT (guardI (by omega)) ?_
    conv => whnf
    refine ⟨rfl, i + 1, [], h1, by omega, rfl, ?_⟩
    repeat' constructor
    · exact w64_nat (by omega)
    · exact key
  simp at h1
  obtain rfl : i = nl 1000000000000000000 y := by omega
  conv => whnf
  refine loop_inv Tryz.eok 150 (fun i : Nat => i ≤ m) (fun i => m - i)
    (fun i => slots [(5, .sl 0 1 0 (m + 1) (m + 1)), (36, i64 m), (37, i64 i)] 0 61)
    (fun i => [.arr 133 [.int .u64] (gU (pl2 x y i)) (cpB .u64 (nl 1000000000000000000 x) (fun i => (dg 1000000000000000000 x i : Nat))) (cpS .u64 (nl 1000000000000000000 x) (fun i => (dg 1000000000000000000 x i : Nat)))]) 0 [] (Nat.zero_le _) ?_ rfl ?_
  · repeat' constructor
    · rw [w64_in (by omega)]; omega
    · refine gU_congr fun j => ?_
      unfold pl1 pl2
      rw [carry_zero, if_neg (Nat.not_lt_zero j)]
      split
      · split <;> rfl
      · rw [dg_ge (n := y) (by omega) (by omega)]
        split <;> rfl
  intro i hi
  conv => whnf
  refine branchI (fun h1 => ?_) (fun h1 => ?_)
  · simp at h1
    have d1 := dg_lt (b := 1000000000000000000) (by omega) x i
    have d2 := dg_lt (b := 1000000000000000000) (by omega) y i
    have d3 := carry_le (b := 1000000000000000000) (by omega) x y i
    have d4 := dg_lt (b := 1000000000000000000) (by omega) x (i + 1)
    have d5 := dg_lt (b := 1000000000000000000) (by omega) y (i + 1)
    have ss := sum_step (b := 1000000000000000000) (by omega) x y i
    have d6 := carry_le (b := 1000000000000000000) (by omega) x y (i + 1)
    have d7 := dg_lt (b := 1000000000000000000) (by omega) (x + y) i
    have at0 : pl2 x y i i = (dg 1000000000000000000 x i + dg 1000000000000000000 y i + carry 1000000000000000000 x y i : Nat) := by unfold pl2; rw [if_neg (by omega), if_pos rfl]
    have at1 : pl2 x y i (i + 1) = (dg 1000000000000000000 x (i + 1) + dg 1000000000000000000 y (i + 1) : Nat) := by unfold pl2; rw [if_neg (by omega), if_neg (by omega)]
    conv => whnf
    refine branchT (guardI (by omega)) ?_
    conv => whnf
    refine branchI (fun h2 => ?_) (fun h2 => ?_)
    · have h2 : decide (1000000000000000000 ≤ gU (pl2 x y i) (0 + i) 0) = true := h2
      rw [gU_at, at0] at h2
      have h2 := of_decide_eq_true h2
      have hc1 : carry 1000000000000000000 x y (i + 1) = 1 := by omega
      have key : ∀ k, k = i + 1 → up2 (up2 (gU (pl2 x y i)) (0 + i) 0 (IntKind.u64.wrap (gU (pl2 x y i) (0 + i) 0 - 1000000000000000000))) (0 + k) 0
          (IntKind.u64.wrap (up2 (gU (pl2 x y i)) (0 + i) 0 (IntKind.u64.wrap (gU (pl2 x y i) (0 + i) 0 - 1000000000000000000)) (0 + k) 0 + 1)) = gU (pl2 x y (i + 1)) := by
        rintro k rfl
        rw [gU_at, gU_up, gU_at, gU_up, at0, if_neg (by omega), at1, u64_in (by omega), u64_in (by omega)]
        refine gU_congr fun j => ?_
        by_cases hj : j = i + 1
        · subst hj
          rw [if_pos rfl]; unfold pl2; rw [if_neg (by omega), if_pos rfl]; omega
        · rw [if_neg hj]
          by_cases hj2 : j = i
          · subst hj2
            rw [if_pos rfl]; unfold pl2; rw [if_pos (by omega)]; omega
          · rw [if_neg hj2]; unfold pl2
            by_cases hj3 : j < i
            · rw [if_pos hj3, if_pos (by omega)]
            · rw [if_neg hj3, if_neg hj2, if_neg (by omega), if_neg hj]
      conv => whnf
      refine branchT (guardI (by omega)) ?_
      conv => whnf
      refine branchT (guardI (by omega)) ?_
      conv => whnf
      refine branchT (by rw [w64_nat (by omega)]; exact guardI (by omega)) ?_
      conv => whnf
      refine branchT (by rw [w64_nat (by omega)]; exact guardI (by omega)) ?_
      conv => whnf
      refine ⟨rfl, i + 1, [], h1, by omega, rfl, ?_⟩
      repeat' constructor
      · exact w64_nat (by omega)
      · exact key _ (by rw [w64_nat (by omega)]; rfl)
    · have h2 : decide (1000000000000000000 ≤ gU (pl2 x y i) (0 + i) 0) = false := h2
      rw [gU_at, at0] at h2
      have h2 := of_decide_eq_false h2
      have hc1 : carry 1000000000000000000 x y (i + 1) = 0 := by omega
      have key : gU (pl2 x y i) = gU (pl2 x y (i + 1)) := by
        refine gU_congr fun j => ?_
        by_cases hj : j = i + 1
        · subst hj
          rw [at1]; unfold pl2; rw [if_neg (by omega), if_pos rfl]; omega
        · by_cases hj2 : j = i
          · subst hj2
            rw [at0]; unfold pl2; rw [if_pos (by omega)]; omega
          · unfold pl2
            by_cases hj3 : j < i
            · rw [if_pos hj3, if_pos (by omega)]
            · rw [if_neg hj3, if_neg hj2, if_neg (by omega), if_neg hj]
      conv => whnf
      refine ⟨rfl, i + 1, [], h1, by omega, rfl, ?_⟩
      repeat' constructor
      · exact w64_nat (by omega)
      · exact key
  simp at h1
  obtain rfl : i = m := by omega
  have fin : pl2 x y i = fun j => ((dg 1000000000000000000 (x + y) j : Nat) : Int) := by
    funext j
    unfold pl2
    by_cases hj : j < i
    · rw [if_pos hj]
    · rw [if_neg hj]
      by_cases hj2 : j = i
      · subst hj2
        rw [if_pos rfl, sum_dg (by omega), dg_big hxm, dg_big hym, Nat.mod_eq_of_lt (by have := carry_le (b := 1000000000000000000) (by omega) x y j; omega)]
      · have p1 : 1000000000000000000 ^ (i + 1) ≤ 1000000000000000000 ^ j := Nat.pow_le_pow_right (by omega) (by omega)
        rw [Nat.pow_succ] at p1
        rw [if_neg hj2, dg_big (n := x) (by omega), dg_big (n := y) (by omega), dg_big (n := x + y) (by omega)]
  conv => whnf
  refine callP1 (trim_mass (n := x + y) (k := i + 1) (g := pl2 x y i) fin (by rw [Nat.pow_succ]; omega) (by omega) ?hW) rfl ?_
  case hW => exact congrArg (fun v => [v]) (gU_row .u64 _ _)
  conv => whnf
  rfl
end Go.Proofs.YtkhbmendaapojaaGreatDoor
