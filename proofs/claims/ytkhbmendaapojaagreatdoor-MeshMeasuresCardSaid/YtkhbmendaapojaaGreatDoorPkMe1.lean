/- Numbers as the reference has them: digits to the base 10^4. The reference's numbers: difference, Plus, integers. The reference's numbers as texts. -/
import Derived.Test.YtkhbmendaapojaaGreatDoorPkBa18
import Derived.Test.YtkhbmendaapojaaGreatDoorPkBa13
import Derived.Test.YtkhbmendaapojaaGreatDoorPkBa23
set_option linter.unusedSimpArgs false
set_option linter.unusedVariables false
/- Numbers as the reference has them: digits to the base 10^4. -/
namespace Go.Proofs.YtkhbmendaapojaaGreatDoor
open Go Go.Vx Go.Num
set_option maxRecDepth 100000
attribute [local irreducible] CallV LoopV CodeV
/-- The digits of a number of the reference's. -/
abbrev plainR (n : Nat) : V := rowI (nl 10000 n) (fun i => (dg 10000 n i : Int))
abbrev plainV (b : Bool) (n : Nat) : V := .agg [.bool b, plainR n]
theorem rcut_pure (n : Nat) (g : Nat → Int) (hn : n < 4611686018427387904) : Pure Tryz.prog 127 [rowI n g] (fun o => o = .ret (rowI (trimN g n) g)) := by
  refine pure_of Tryz.func127 rfl 100 ?_
  conv => whnf
  refine loop_inv Tryz.eok 80 (fun k : Nat => k ≤ n ∧ trimN g n = trimN g k) (fun k => k)
    (fun k => slots [(0, rowI n g), (3, i64 k)] 0 21) (fun _ => []) n [] ⟨Nat.le_refl _, rfl⟩ (by repeat' constructor) rfl ?_
  rintro k ⟨hk, hf⟩
  have fin : trimN g n = k → Out.ret (rowI k g) = Out.ret (rowI (trimN g n) g) := fun h => by rw [h]
  conv => whnf
  refine branchI (fun h1 => ?_) (fun h1 => ?_)
  · simp at h1
    obtain ⟨j, rfl⟩ : ∃ j, k = j + 1 := ⟨k - 1, by omega⟩
    have hw : IntKind.i64.wrap (((j + 1 : Nat) : Int) - 1) = (j : Int) := by rw [w64_in (by omega)]; omega
    conv => whnf
    refine branchT (by rw [hw]; exact guardI (by omega)) ?_
    conv => whnf
    refine branchI (fun h2 => ?_) (fun h2 => ?_)
    · have h2 : (g (IntKind.i64.wrap (((j + 1 : Nat) : Int) - 1)).toNat == 0) = true := h2
      rw [hw] at h2
      have h2 : g j = 0 := by simpa using h2
      rw [trimN, if_pos h2] at hf
      conv => whnf
      refine ⟨rfl, j, [], ⟨by omega, hf⟩, by omega, rfl, ?_⟩
      repeat' constructor
      exact hw
    · have h2 : (g (IntKind.i64.wrap (((j + 1 : Nat) : Int) - 1)).toNat == 0) = false := h2
      rw [hw] at h2
      have h2 : g j ≠ 0 := by simpa using h2
      rw [trimN, if_neg h2] at hf
      conv => whnf
      refine branchT (by simp; omega) ?_
      conv => whnf
      refine (retV ?_).trans (fin hf)
      simp
      rfl
  · simp at h1
    subst h1
    conv => whnf
    refine (retV ?_).trans (fin hf)
    simp
    rfl
theorem cut_plain {n k : Nat} {g : Nat → Int} (hg : g = fun i => (dg 10000 n i : Int)) (hn : n < 10000 ^ k) (hk : k < 4611686018427387904) {Ws : List V} (hW : Ws = [rowI k g]) :
    Pure Tryz.prog 127 Ws (fun o => o = .ret (plainR n)) := by
  subst hW; subst hg
  have := rcut_pure k (fun i => (dg 10000 n i : Int)) hk
  rwa [trimN_dg (by omega) (fun _ _ => rfl) hn] at this
theorem made_pure (b : Bool) (n k : Nat) {Ws : List V} (g : Nat → Int) (hg : g = fun i => (dg 10000 n i : Int)) (hn : n < 10000 ^ k) (hk : k < 4611686018427387904) (hW : Ws = [.bool b, rowI k g]) :
    Pure Tryz.prog 99 Ws (fun o => o = .ret (plainV (b && !decide (n = 0)) n)) := by
  subst hW
  refine pure_of Tryz.func99 rfl 100 ?_
  have hz : n = 0 ↔ nl 10000 n = 0 := (nl_eq_zero (by omega)).symm
  conv => whnf
  refine callP1 (cut_plain hg hn hk rfl) rfl ?_
  conv => whnf
  refine branchI (fun h1 => ?_) (fun h1 => ?_)
  · obtain rfl : b = true := h1
    conv => whnf
    refine retV ?_
    show V.agg [.bool (decide (0 < (nl 10000 n : Int))), plainR n] = _
    have : decide (0 < (nl 10000 n : Int)) = (true && !decide (n = 0)) := by
      rw [Bool.true_and]
      by_cases h0 : n = 0
      · rw [decide_eq_true h0, decide_eq_false (by omega)]; rfl
      · rw [decide_eq_false h0, decide_eq_true (by have := nl_pos (b := 10000) (by omega) h0; omega)]; rfl
    rw [this]
  · obtain rfl : b = false := h1
    conv => whnf
    rfl
theorem rorder_pure (x y : Nat) (hx : nl 10000 x < 4611686018427387904) (hy : nl 10000 y < 4611686018427387904) :
    Pure Tryz.prog 101 [plainR x, plainR y] (fun o => ∃ c : Int, o = .ret (i64 c) ∧ (0 ≤ c ↔ y ≤ x)) := by
  refine pure_of Tryz.func101 rfl 100 ?_
  conv => whnf
  refine branchI (fun h1 => ?_) (fun h1 => ?_)
  · have h1 : (!((nl 10000 x : Int) == nl 10000 y)) = true := h1
    have hne : nl 10000 x ≠ nl 10000 y := fun he => by rw [he] at h1; simp at h1
    conv => whnf
    refine ⟨_, rfl, ?_⟩
    rw [w64_in (by omega)]
    constructor
    · intro h; exact Nat.le_of_lt (lt_of_nl (b := 10000) (by omega) (by omega))
    · intro h; have := nl_mono (b := 10000) (by omega) h; omega
  have h1 : (!((nl 10000 x : Int) == nl 10000 y)) = false := h1
  have he : nl 10000 x = nl 10000 y := by simp at h1; omega
  conv => whnf
  refine loop_inv Tryz.eok 80 (fun k : Nat => k ≤ nl 10000 x ∧ x / 10000 ^ k = y / 10000 ^ k) (fun k => k)
    (fun k => slots [(0, plainR x), (1, plainR y), (5, i64 ((k : Int) - 1))] 0 41) (fun _ => []) (nl 10000 x) [] ⟨Nat.le_refl _, ?_⟩ ?_ rfl ?_
  · rw [Nat.div_eq_of_lt (lt_pow_nl (by omega) x), he, Nat.div_eq_of_lt (lt_pow_nl (by omega) y)]
  · repeat' constructor
    exact w64_in (by omega)
  rintro k ⟨hk, hf⟩
  conv => whnf
  refine branchI (fun h1 => ?_) (fun h1 => ?_)
  · simp at h1
    obtain ⟨j, rfl⟩ : ∃ j, k = j + 1 := ⟨k - 1, by omega⟩
    have hw : ((j + 1 : Nat) : Int) - 1 = (j : Int) := by omega
    have hg1 : (decide (0 ≤ ((j + 1 : Nat) : Int) - 1) && decide (((j + 1 : Nat) : Int) - 1 < ((nl 10000 x : Nat) : Int))) = true := by rw [hw]; exact guardI (by omega)
    have hg2 : (decide (0 ≤ ((j + 1 : Nat) : Int) - 1) && decide (((j + 1 : Nat) : Int) - 1 < ((nl 10000 y : Nat) : Int))) = true := by rw [hw]; exact guardI (by omega)
    have dj : ∀ z : Nat, ((dg 10000 z (((j + 1 : Nat) : Int) - 1).toNat : Nat) : Int) = (dg 10000 z j : Nat) := fun z => by rw [hw]; rfl
    have dx := dg_lt (b := 10000) (by omega) x j
    have dy := dg_lt (b := 10000) (by omega) y j
    conv => whnf
    refine branchT hg1 ?_
    conv => whnf
    refine branchT hg2 ?_
    conv => whnf
    refine branchI (fun h2 => ?_) (fun h2 => ?_)
    · have h2 : (!(((dg 10000 x (((j + 1 : Nat) : Int) - 1).toNat : Nat) : Int) == ((dg 10000 y (((j + 1 : Nat) : Int) - 1).toNat : Nat) : Int))) = true := h2
      rw [dj, dj] at h2
      have h2 : dg 10000 x j ≠ dg 10000 y j := fun hc => by rw [hc] at h2; simp at h2
      conv => whnf
      refine branchT hg1 ?_
      conv => whnf
      refine branchT hg2 ?_
      conv => whnf
      refine ⟨_, rfl, ?_⟩
      show 0 ≤ IntKind.i64.wrap (((dg 10000 x (((j + 1 : Nat) : Int) - 1).toNat : Nat) : Int) - ((dg 10000 y (((j + 1 : Nat) : Int) - 1).toNat : Nat) : Int)) ↔ _
      rw [dj, dj, w64_in (by omega)]
      constructor
      · intro h; exact Nat.le_of_lt (lt_of_dg (b := 10000) (by omega) hf.symm (by omega))
      · intro h
        apply Classical.byContradiction; intro hc
        have := lt_of_dg (b := 10000) (by omega) hf (show dg 10000 x j < dg 10000 y j by omega)
        omega
    have h2 : (!(((dg 10000 x (((j + 1 : Nat) : Int) - 1).toNat : Nat) : Int) == ((dg 10000 y (((j + 1 : Nat) : Int) - 1).toNat : Nat) : Int))) = false := h2
    rw [dj, dj] at h2
    have h2 : dg 10000 x j = dg 10000 y j := by simp at h2; omega
    conv => whnf
    refine ⟨rfl, j, [], ⟨by omega, (div_eq_iff_dg hf).2 h2⟩, by omega, rfl, ?_⟩
    repeat' constructor
    show IntKind.i64.wrap (((j + 1 : Nat) : Int) - 1 - 1) = (j : Int) - 1
    rw [hw]; exact w64_in (by omega)
  · simp at h1
    obtain rfl : k = 0 := by omega
    have hxy : x = y := by simpa using hf
    conv => whnf
    exact ⟨_, rfl, by simp [hxy]⟩
abbrev Gh := Nat × (Nat → Nat → Int) × (Nat → Nat → Bool) × (Nat → Nat → List UInt8)
theorem tmod_nat (m k : Nat) : ((m : Int)).tmod (k : Int) = ((m % k : Nat) : Int) := by rw [Int.tmod_eq_emod_of_nonneg (by omega)]; omega
theorem tdiv_nat (m k : Nat) : ((m : Int)).tdiv (k : Int) = ((m / k : Nat) : Int) := by rw [Int.tdiv_eq_ediv_of_nonneg (by omega)]; omega
/-- One integer more behind a row. -/
theorem push_at {gi hi : Nat → Nat → Int} {n : Nat} {g : Nat → Int} {v : Int} (h : ∀ j, j < n → gi j 0 = g j) (hv : hi 0 0 = v) (hg : v = g n) : ∀ j, j < n + 1 → appF n (fun i => gi (0 + i)) hi j 0 = g j := by
  intro j hj
  by_cases h1 : j < n
  · rw [appF_lt h1]
    show gi (0 + j) 0 = _
    rw [Nat.zero_add]; exact h j h1
  · obtain rfl : j = n := by omega
    rw [appF_ge (Nat.le_refl _), Nat.sub_self, hv, hg]
theorem pow_mono' {i j : Nat} (h : i ≤ j) : 10000 ^ i ≤ 10000 ^ j := Nat.pow_le_pow_right (by omega) h
theorem rsum_pure (x y : Nat) (hx : nl 10000 x < 100000000) (hy : nl 10000 y < 100000000) :
    Pure Tryz.prog 100 [plainR x, plainR y] (fun o => ∃ (k : Nat) (g : Nat → Int), x + y < 10000 ^ k ∧ k < 1000000000 ∧ (∀ i, i < k → g i = (dg 10000 (x + y) i : Nat)) ∧ o = .ret (rowI k g)) := by
  refine pure_of Tryz.func100 rfl 200 ?_
  obtain ⟨m, hm1, hm2, hm⟩ : ∃ m, nl 10000 x ≤ m ∧ nl 10000 y ≤ m ∧ m < 100000000 := ⟨max (nl 10000 x) (nl 10000 y), by omega, by omega, by omega⟩
  have cz : ∀ i, m < i → carry 10000 x y i = 0 := fun i hi => by
    obtain ⟨j, rfl⟩ : ∃ j, i = j + 1 := ⟨i - 1, by omega⟩
    rw [sum_carry (by omega), dg_ge (n := x) (by omega) (by omega), dg_ge (n := y) (by omega) (by omega)]
    have := carry_le (b := 10000) (by omega) x y j
    omega
  conv => whnf
  refine loop_inv Tryz.eok 180 (fun s : Gh => s.1 ≤ m + 1 ∧ ∀ j, j < s.1 → s.2.1 j 0 = (dg 10000 (x + y) j : Nat)) (fun s => m + 1 - s.1)
    (fun s => slots [(0, plainR x), (1, plainR y), (5, .sl 0 1 0 s.1 s.1), (6, i64 (carry 10000 x y s.1)), (7, i64 s.1)] 0 52)
    (fun s => [.arr 3 [.int .i64] s.2.1 s.2.2.1 s.2.2.2]) ⟨0, fun _ _ => 0, fun _ _ => false, fun _ _ => []⟩ [1000000] ⟨by omega, fun j hj => absurd hj (Nat.not_lt_zero j)⟩ ?_ rfl ?_
  · repeat' constructor
    exact (congrArg Nat.cast (carry_zero 10000 x y)).symm
  rintro ⟨i, gi, gb, gs⟩ ⟨hi, hg⟩
  have hi : i ≤ m + 1 := hi
  have hg : ∀ j, j < i → gi j 0 = (dg 10000 (x + y) j : Nat) := hg
  have cl := carry_le (b := 10000) (by omega) x y i
  have dx := dg_lt (b := 10000) (by omega) x i
  have dy := dg_lt (b := 10000) (by omega) y i
  by_cases hc : i < nl 10000 x ∨ i < nl 10000 y ∨ 0 < carry 10000 x y i
  · have him : i ≤ m := by
      apply Classical.byContradiction; intro h
      have := cz i (by omega)
      omega
    have hx0 : ¬ i < nl 10000 x → dg 10000 x i = 0 := fun h => dg_ge (by omega) (by omega)
    have hy0 : ¬ i < nl 10000 y → dg 10000 y i = 0 := fun h => dg_ge (by omega) (by omega)
    have leaf : ∀ c : Int, c = ((dg 10000 x i + dg 10000 y i + carry 10000 x y i : Nat) : Int) → c.tmod 10000 = ((dg 10000 (x + y) i : Nat) : Int) ∧ IntKind.i64.wrap (c.tdiv 10000) = ((carry 10000 x y (i + 1) : Nat) : Int) := by
      rintro c rfl
      rw [show (10000 : Int) = ((10000 : Nat) : Int) from rfl, tmod_nat, tdiv_nat, ← sum_dg (by omega), ← sum_carry (by omega)]
      have := carry_le (b := 10000) (by omega) x y (i + 1)
      exact ⟨rfl, w64_in (by omega)⟩
    by_cases hx1 : i < nl 10000 x <;> by_cases hy1 : i < nl 10000 y
    · conv => whnf
      repeat (first
        | ((refine branchT (decide_eq_true (by omega)) ?_); (conv => whnf))
        | ((refine branchF (decide_eq_false (by omega)) ?_); (conv => whnf))
        | ((refine branchT (guardI (by omega)) ?_); (conv => whnf))
        | ((refine branchT (decide_eq_true (show (0 : Int) < ((carry 10000 x y i : Nat) : Int) by omega)) ?_); (conv => whnf))
        | ((refine branchF (decide_eq_false (show ¬ (0 : Int) < ((carry 10000 x y i : Nat) : Int) by omega)) ?_); (conv => whnf)))
      refine branchT (fits_ok (Nat.le_refl 8) (by show i + 1 ≤ _; omega)) ?_
      conv => whnf
      refine ⟨rfl, ⟨i + 1, ?gi1, ?gb1, ?gs1⟩, [2], ?inv1, ?mu1, rfl, ?ls1⟩
      case ls1 =>
        repeat' constructor
        · exact (leaf _ (by show IntKind.i64.wrap (IntKind.i64.wrap (((carry 10000 x y i : Nat) : Int) + ((dg 10000 x i : Nat) : Int)) + ((dg 10000 y i : Nat) : Int)) = _; rw [w64_in (x := ((carry 10000 x y i : Nat) : Int) + ((dg 10000 x i : Nat) : Int)) (by omega), w64_in (by omega)]; omega)).2
        · exact w64_nat (by omega)
        all_goals exact rfl
      case mu1 => show m + 1 - (i + 1) < m + 1 - i; omega
      case inv1 =>
        refine ⟨by show i + 1 ≤ m + 1; omega, ?_⟩
        exact push_at hg (v := (IntKind.i64.wrap (IntKind.i64.wrap (((carry 10000 x y i : Nat) : Int) + ((dg 10000 x i : Nat) : Int)) + ((dg 10000 y i : Nat) : Int))).tmod 10000) rfl (leaf _ (by show IntKind.i64.wrap (IntKind.i64.wrap (((carry 10000 x y i : Nat) : Int) + ((dg 10000 x i : Nat) : Int)) + ((dg 10000 y i : Nat) : Int)) = _; rw [w64_in (x := ((carry 10000 x y i : Nat) : Int) + ((dg 10000 x i : Nat) : Int)) (by omega), w64_in (by omega)]; omega)).1
    · conv => whnf
      repeat (first
        | ((refine branchT (decide_eq_true (by omega)) ?_); (conv => whnf))
        | ((refine branchF (decide_eq_false (by omega)) ?_); (conv => whnf))
        | ((refine branchT (guardI (by omega)) ?_); (conv => whnf))
        | ((refine branchT (decide_eq_true (show (0 : Int) < ((carry 10000 x y i : Nat) : Int) by omega)) ?_); (conv => whnf))
        | ((refine branchF (decide_eq_false (show ¬ (0 : Int) < ((carry 10000 x y i : Nat) : Int) by omega)) ?_); (conv => whnf)))
      refine branchT (fits_ok (Nat.le_refl 8) (by show i + 1 ≤ _; omega)) ?_
      conv => whnf
      refine ⟨rfl, ⟨i + 1, ?gi2, ?gb2, ?gs2⟩, [2], ?inv2, ?mu2, rfl, ?ls2⟩
      case ls2 =>
        repeat' constructor
        · exact (leaf _ (by show IntKind.i64.wrap (((carry 10000 x y i : Nat) : Int) + ((dg 10000 x i : Nat) : Int)) = _; have := hy0 hy1; rw [w64_in (by omega)]; omega)).2
        · exact w64_nat (by omega)
        all_goals exact rfl
      case mu2 => show m + 1 - (i + 1) < m + 1 - i; omega
      case inv2 =>
        refine ⟨by show i + 1 ≤ m + 1; omega, ?_⟩
        exact push_at hg (v := (IntKind.i64.wrap (((carry 10000 x y i : Nat) : Int) + ((dg 10000 x i : Nat) : Int))).tmod 10000) rfl (leaf _ (by show IntKind.i64.wrap (((carry 10000 x y i : Nat) : Int) + ((dg 10000 x i : Nat) : Int)) = _; have := hy0 hy1; rw [w64_in (by omega)]; omega)).1
    · conv => whnf
      repeat (first
        | ((refine branchT (decide_eq_true (by omega)) ?_); (conv => whnf))
        | ((refine branchF (decide_eq_false (by omega)) ?_); (conv => whnf))
        | ((refine branchT (guardI (by omega)) ?_); (conv => whnf))
        | ((refine branchT (decide_eq_true (show (0 : Int) < ((carry 10000 x y i : Nat) : Int) by omega)) ?_); (conv => whnf))
        | ((refine branchF (decide_eq_false (show ¬ (0 : Int) < ((carry 10000 x y i : Nat) : Int) by omega)) ?_); (conv => whnf)))
      refine branchT (fits_ok (Nat.le_refl 8) (by show i + 1 ≤ _; omega)) ?_
      conv => whnf
      refine ⟨rfl, ⟨i + 1, ?gi3, ?gb3, ?gs3⟩, [2], ?inv3, ?mu3, rfl, ?ls3⟩
      case ls3 =>
        repeat' constructor
        · exact (leaf _ (by show IntKind.i64.wrap (((carry 10000 x y i : Nat) : Int) + ((dg 10000 y i : Nat) : Int)) = _; have := hx0 hx1; rw [w64_in (by omega)]; omega)).2
        · exact w64_nat (by omega)
        all_goals exact rfl
      case mu3 => show m + 1 - (i + 1) < m + 1 - i; omega
      case inv3 =>
        refine ⟨by show i + 1 ≤ m + 1; omega, ?_⟩
        exact push_at hg (v := (IntKind.i64.wrap (((carry 10000 x y i : Nat) : Int) + ((dg 10000 y i : Nat) : Int))).tmod 10000) rfl (leaf _ (by show IntKind.i64.wrap (((carry 10000 x y i : Nat) : Int) + ((dg 10000 y i : Nat) : Int)) = _; have := hx0 hx1; rw [w64_in (by omega)]; omega)).1
    · conv => whnf
      repeat (first
        | ((refine branchT (decide_eq_true (by omega)) ?_); (conv => whnf))
        | ((refine branchF (decide_eq_false (by omega)) ?_); (conv => whnf))
        | ((refine branchT (guardI (by omega)) ?_); (conv => whnf))
        | ((refine branchT (decide_eq_true (show (0 : Int) < ((carry 10000 x y i : Nat) : Int) by omega)) ?_); (conv => whnf))
        | ((refine branchF (decide_eq_false (show ¬ (0 : Int) < ((carry 10000 x y i : Nat) : Int) by omega)) ?_); (conv => whnf)))
      refine branchT (fits_ok (Nat.le_refl 8) (by show i + 1 ≤ _; omega)) ?_
      conv => whnf
      refine ⟨rfl, ⟨i + 1, ?gi4, ?gb4, ?gs4⟩, [2], ?inv4, ?mu4, rfl, ?ls4⟩
      case ls4 =>
        repeat' constructor
        · exact (leaf _ (by show ((carry 10000 x y i : Nat) : Int) = _; have := hx0 hx1; have := hy0 hy1; omega)).2
        · exact w64_nat (by omega)
        all_goals exact rfl
      case mu4 => show m + 1 - (i + 1) < m + 1 - i; omega
      case inv4 =>
        refine ⟨by show i + 1 ≤ m + 1; omega, ?_⟩
        exact push_at hg (v := (((carry 10000 x y i : Nat) : Int)).tmod 10000) rfl (leaf _ (by show ((carry 10000 x y i : Nat) : Int) = _; have := hx0 hx1; have := hy0 hy1; omega)).1
  · conv => whnf
    repeat (first
      | ((refine branchT (decide_eq_true (by omega)) ?_); (conv => whnf))
      | ((refine branchF (decide_eq_false (by omega)) ?_); (conv => whnf))
      | ((refine branchT (guardI (by omega)) ?_); (conv => whnf))
      | ((refine branchT (decide_eq_true (show (0 : Int) < ((carry 10000 x y i : Nat) : Int) by omega)) ?_); (conv => whnf))
      | ((refine branchF (decide_eq_false (show ¬ (0 : Int) < ((carry 10000 x y i : Nat) : Int) by omega)) ?_); (conv => whnf)))
    refine ⟨i, fun j => gi (0 + j) 0, ?_, by omega, ?_, rfl⟩
    · have px := pow_mono' (show nl 10000 x ≤ i by omega)
      have py := pow_mono' (show nl 10000 y ≤ i by omega)
      have lx := lt_pow_nl (b := 10000) (by omega) x
      have ly := lt_pow_nl (b := 10000) (by omega) y
      have := carry_end (b := 10000) (x := x) (y := y) (i := i) (by omega) (by omega)
      rw [show carry 10000 x y i = 0 by omega] at this
      exact (Nat.div_eq_zero_iff_lt (Nat.pow_pos (by omega))).1 this
    · intro j hj
      show gi (0 + j) 0 = _
      rw [Nat.zero_add]; exact hg j hj
end Go.Proofs.YtkhbmendaapojaaGreatDoor
/- The reference's numbers: difference, Plus, integers. -/
namespace Go.Proofs.YtkhbmendaapojaaGreatDoor
open Go Go.Vx Go.Num
set_option maxRecDepth 100000
attribute [local irreducible] CallV LoopV CodeV
theorem rdiff_pure (x y : Nat) (h : y ≤ x) (hx : nl 10000 x < 100000000) :
    Pure Tryz.prog 102 [plainR x, plainR y] (fun o => o = .ret (plainR (x - y))) := by
  refine Pure.retSub (pure_of Tryz.func102 rfl 200 ?_)
  have hyx := nl_mono (b := 10000) (by omega) h
  conv => whnf
  refine loop_inv Tryz.eok 180 (fun s : Gh => s.1 ≤ nl 10000 x ∧ ∀ j, j < s.1 → s.2.1 j 0 = (dg 10000 (x - y) j : Nat)) (fun s => nl 10000 x - s.1)
    (fun s => slots [(0, plainR x), (1, plainR y), (5, .sl 0 1 0 s.1 s.1), (6, i64 (bor 10000 x y s.1)), (7, i64 s.1)] 0 41)
    (fun s => [.arr 3 [.int .i64] s.2.1 s.2.2.1 s.2.2.2]) ⟨0, fun _ _ => 0, fun _ _ => false, fun _ _ => []⟩ [1000000] ⟨by omega, fun j hj => absurd hj (Nat.not_lt_zero j)⟩ ?_ rfl ?_
  · repeat' constructor
    exact (congrArg Nat.cast (bor_zero 10000 x y)).symm
  rintro ⟨i, gi, gb, gs⟩ ⟨hi, hg⟩
  have hi : i ≤ nl 10000 x := hi
  have hg : ∀ j, j < i → gi j 0 = (dg 10000 (x - y) j : Nat) := hg
  have dx := dg_lt (b := 10000) (by omega) x i
  have dy := dg_lt (b := 10000) (by omega) y i
  have dd := dg_lt (b := 10000) (by omega) (x - y) i
  have b0 := bor_le 10000 x y i
  have b1 := bor_le 10000 x y (i + 1)
  have st := dif_step (b := 10000) (by omega) h i
  by_cases hc : i < nl 10000 x
  · by_cases hy1 : i < nl 10000 y
    · have e1 : IntKind.i64.wrap (IntKind.i64.wrap (((dg 10000 x i : Nat) : Int) - ((bor 10000 x y i : Nat) : Int)) - ((dg 10000 y i : Nat) : Int)) = ((dg 10000 (x - y) i : Nat) : Int) - 10000 * ((bor 10000 x y (i + 1) : Nat) : Int) := by
        rw [w64_in (x := ((dg 10000 x i : Nat) : Int) - ((bor 10000 x y i : Nat) : Int)) (by omega), w64_in (by omega)]; omega
      conv => whnf
      refine branchT (decide_eq_true (by omega)) ?_
      conv => whnf
      refine branchT (guardI ⟨by omega, by omega⟩) ?_
      conv => whnf
      refine branchT (decide_eq_true (by omega)) ?_
      conv => whnf
      refine branchT (guardI ⟨by omega, by omega⟩) ?_
      conv => whnf
      by_cases hb : bor 10000 x y (i + 1) = 1
      · have hbq : (1 : Int) = ((bor 10000 x y (i + 1) : Nat) : Int) := by omega
        refine branchT (decide_eq_true (show IntKind.i64.wrap (IntKind.i64.wrap (((dg 10000 x i : Nat) : Int) - ((bor 10000 x y i : Nat) : Int)) - ((dg 10000 y i : Nat) : Int)) < 0 by rw [e1]; omega)) ?_
        conv => whnf
        refine branchT (fits_ok (Nat.le_refl 8) (by show i + 1 ≤ _; omega)) ?_
        conv => whnf
        refine ⟨rfl, ⟨i + 1, ?gi0a, ?gb0a, ?gs0a⟩, [2], ?inv0a, ?mu0a, rfl, ?ls0a⟩
        case ls0a =>
          repeat' constructor
          all_goals first | exact rfl | exact w64_nat (by omega) | exact hbq | skip
        case mu0a => show nl 10000 x - (i + 1) < nl 10000 x - i; omega
        case inv0a => exact ⟨by show i + 1 ≤ nl 10000 x; omega, push_at hg (v := IntKind.i64.wrap (IntKind.i64.wrap (IntKind.i64.wrap (((dg 10000 x i : Nat) : Int) - ((bor 10000 x y i : Nat) : Int)) - ((dg 10000 y i : Nat) : Int)) + 10000)) rfl (by rw [e1]; rw [w64_in (by omega)]; omega)⟩
      · have hbq : (0 : Int) = ((bor 10000 x y (i + 1) : Nat) : Int) := by omega
        refine branchF (decide_eq_false (show ¬ IntKind.i64.wrap (IntKind.i64.wrap (((dg 10000 x i : Nat) : Int) - ((bor 10000 x y i : Nat) : Int)) - ((dg 10000 y i : Nat) : Int)) < 0 by rw [e1]; omega)) ?_
        conv => whnf
        refine branchT (fits_ok (Nat.le_refl 8) (by show i + 1 ≤ _; omega)) ?_
        conv => whnf
        refine ⟨rfl, ⟨i + 1, ?gi0b, ?gb0b, ?gs0b⟩, [2], ?inv0b, ?mu0b, rfl, ?ls0b⟩
        case ls0b =>
          repeat' constructor
          all_goals first | exact rfl | exact w64_nat (by omega) | exact hbq | skip
        case mu0b => show nl 10000 x - (i + 1) < nl 10000 x - i; omega
        case inv0b => exact ⟨by show i + 1 ≤ nl 10000 x; omega, push_at hg (v := IntKind.i64.wrap (IntKind.i64.wrap (((dg 10000 x i : Nat) : Int) - ((bor 10000 x y i : Nat) : Int)) - ((dg 10000 y i : Nat) : Int))) rfl (by rw [e1]; omega)⟩
    · have e1 : IntKind.i64.wrap (((dg 10000 x i : Nat) : Int) - ((bor 10000 x y i : Nat) : Int)) = ((dg 10000 (x - y) i : Nat) : Int) - 10000 * ((bor 10000 x y (i + 1) : Nat) : Int) := by
        have y0 : dg 10000 y i = 0 := dg_ge (by omega) (by omega)
        rw [w64_in (by omega)]; omega
      conv => whnf
      refine branchT (decide_eq_true (by omega)) ?_
      conv => whnf
      refine branchT (guardI ⟨by omega, by omega⟩) ?_
      conv => whnf
      refine branchF (decide_eq_false (by omega)) ?_
      conv => whnf
      by_cases hb : bor 10000 x y (i + 1) = 1
      · have hbq : (1 : Int) = ((bor 10000 x y (i + 1) : Nat) : Int) := by omega
        refine branchT (decide_eq_true (show IntKind.i64.wrap (((dg 10000 x i : Nat) : Int) - ((bor 10000 x y i : Nat) : Int)) < 0 by rw [e1]; omega)) ?_
        conv => whnf
        refine branchT (fits_ok (Nat.le_refl 8) (by show i + 1 ≤ _; omega)) ?_
        conv => whnf
        refine ⟨rfl, ⟨i + 1, ?gi1a, ?gb1a, ?gs1a⟩, [2], ?inv1a, ?mu1a, rfl, ?ls1a⟩
        case ls1a =>
          repeat' constructor
          all_goals first | exact rfl | exact w64_nat (by omega) | exact hbq | skip
        case mu1a => show nl 10000 x - (i + 1) < nl 10000 x - i; omega
        case inv1a => exact ⟨by show i + 1 ≤ nl 10000 x; omega, push_at hg (v := IntKind.i64.wrap (IntKind.i64.wrap (((dg 10000 x i : Nat) : Int) - ((bor 10000 x y i : Nat) : Int)) + 10000)) rfl (by rw [e1]; rw [w64_in (by omega)]; omega)⟩
      · have hbq : (0 : Int) = ((bor 10000 x y (i + 1) : Nat) : Int) := by omega
        refine branchF (decide_eq_false (show ¬ IntKind.i64.wrap (((dg 10000 x i : Nat) : Int) - ((bor 10000 x y i : Nat) : Int)) < 0 by rw [e1]; omega)) ?_
        conv => whnf
        refine branchT (fits_ok (Nat.le_refl 8) (by show i + 1 ≤ _; omega)) ?_
        conv => whnf
        refine ⟨rfl, ⟨i + 1, ?gi1b, ?gb1b, ?gs1b⟩, [2], ?inv1b, ?mu1b, rfl, ?ls1b⟩
        case ls1b =>
          repeat' constructor
          all_goals first | exact rfl | exact w64_nat (by omega) | exact hbq | skip
        case mu1b => show nl 10000 x - (i + 1) < nl 10000 x - i; omega
        case inv1b => exact ⟨by show i + 1 ≤ nl 10000 x; omega, push_at hg (v := IntKind.i64.wrap (((dg 10000 x i : Nat) : Int) - ((bor 10000 x y i : Nat) : Int))) rfl (by rw [e1]; omega)⟩
  · obtain rfl : i = nl 10000 x := by omega
    conv => whnf
    refine branchF (decide_eq_false (by omega)) ?_
    conv => whnf
    refine callP1 (rcut_pure (nl 10000 x) (fun j => gi (0 + j) 0) (by omega)) rfl ?_
    conv => whnf
    have hq : ∀ j, j < nl 10000 x → gi (0 + j) 0 = (dg 10000 (x - y) j : Nat) := fun j hj => by rw [Nat.zero_add]; exact hg j hj
    have hl : x - y < 10000 ^ nl 10000 x := Nat.lt_of_le_of_lt (Nat.sub_le x y) (lt_pow_nl (b := 10000) (by omega) x)
    refine RetSub.of ?_
    show SubV (rowI (trimN (fun j => gi (0 + j) 0) (nl 10000 x)) (fun j => gi (0 + j) 0)) (plainR (x - y))
    rw [trimN_dg (b := 10000) (by omega) hq hl]
    refine SubV.ro fun j hj => ?_
    have hj : j < nl 10000 (x - y) := hj
    have := nl_mono (b := 10000) (by omega) (Nat.sub_le x y)
    show [V.int .i64 (gi (0 + j) 0)] = [V.int .i64 ((dg 10000 (x - y) j : Nat) : Int)]
    rw [hq j (by omega)]
def kS (x y : Nat) : Nat := max (nl 10000 x) (nl 10000 y) + carry 10000 x y (max (nl 10000 x) (nl 10000 y))
theorem rsum_pure2 (x y : Nat) (hx : nl 10000 x < 100000000) (hy : nl 10000 y < 100000000) :
    Pure Tryz.prog 100 [plainR x, plainR y] (fun o => o = .ret (rowI (kS x y) (fun i => (dg 10000 (x + y) i : Nat)))) := by
  refine Pure.retSub (pure_of Tryz.func100 rfl 200 ?_)
  obtain ⟨m, hm1, hm2, hm, hmx⟩ : ∃ m, nl 10000 x ≤ m ∧ nl 10000 y ≤ m ∧ m < 100000000 ∧ m = max (nl 10000 x) (nl 10000 y) := ⟨max (nl 10000 x) (nl 10000 y), by omega, by omega, by omega, rfl⟩
  have cz : ∀ i, m < i → carry 10000 x y i = 0 := fun i hi => by
    obtain ⟨j, rfl⟩ : ∃ j, i = j + 1 := ⟨i - 1, by omega⟩
    rw [sum_carry (by omega), dg_ge (n := x) (by omega) (by omega), dg_ge (n := y) (by omega) (by omega)]
    have := carry_le (b := 10000) (by omega) x y j
    omega
  conv => whnf
  refine loop_inv Tryz.eok 180 (fun s : Gh => s.1 ≤ m + 1 ∧ (s.1 = m + 1 → 0 < carry 10000 x y m) ∧ ∀ j, j < s.1 → s.2.1 j 0 = (dg 10000 (x + y) j : Nat)) (fun s => m + 1 - s.1)
    (fun s => slots [(0, plainR x), (1, plainR y), (5, .sl 0 1 0 s.1 s.1), (6, i64 (carry 10000 x y s.1)), (7, i64 s.1)] 0 52)
    (fun s => [.arr 3 [.int .i64] s.2.1 s.2.2.1 s.2.2.2]) ⟨0, fun _ _ => 0, fun _ _ => false, fun _ _ => []⟩ [1000000] ⟨by omega, fun h => absurd h (by show ¬ 0 = m + 1; omega), fun j hj => absurd hj (Nat.not_lt_zero j)⟩ ?_ rfl ?_
  · repeat' constructor
    exact (congrArg Nat.cast (carry_zero 10000 x y)).symm
  rintro ⟨i, gi, gb, gs⟩ ⟨hi, hl, hg⟩
  have hi : i ≤ m + 1 := hi
  have hl : i = m + 1 → 0 < carry 10000 x y m := hl
  have hg : ∀ j, j < i → gi j 0 = (dg 10000 (x + y) j : Nat) := hg
  have cl := carry_le (b := 10000) (by omega) x y i
  have dx := dg_lt (b := 10000) (by omega) x i
  have dy := dg_lt (b := 10000) (by omega) y i
  by_cases hc : i < nl 10000 x ∨ i < nl 10000 y ∨ 0 < carry 10000 x y i
  · have him : i ≤ m := by
      apply Classical.byContradiction; intro h
      have := cz i (by omega)
      omega
    have hx0 : ¬ i < nl 10000 x → dg 10000 x i = 0 := fun h => dg_ge (by omega) (by omega)
    have hy0 : ¬ i < nl 10000 y → dg 10000 y i = 0 := fun h => dg_ge (by omega) (by omega)
    have leaf : ∀ c : Int, c = ((dg 10000 x i + dg 10000 y i + carry 10000 x y i : Nat) : Int) → c.tmod 10000 = ((dg 10000 (x + y) i : Nat) : Int) ∧ IntKind.i64.wrap (c.tdiv 10000) = ((carry 10000 x y (i + 1) : Nat) : Int) := by
      rintro c rfl
      rw [show (10000 : Int) = ((10000 : Nat) : Int) from rfl, tmod_nat, tdiv_nat, ← sum_dg (by omega), ← sum_carry (by omega)]
      have := carry_le (b := 10000) (by omega) x y (i + 1)
      exact ⟨rfl, w64_in (by omega)⟩
    by_cases hx1 : i < nl 10000 x <;> by_cases hy1 : i < nl 10000 y
    · conv => whnf
      repeat (first
        | ((refine branchT (decide_eq_true (by omega)) ?_); (conv => whnf))
        | ((refine branchF (decide_eq_false (by omega)) ?_); (conv => whnf))
        | ((refine branchT (guardI (by omega)) ?_); (conv => whnf))
        | ((refine branchT (decide_eq_true (show (0 : Int) < ((carry 10000 x y i : Nat) : Int) by omega)) ?_); (conv => whnf))
        | ((refine branchF (decide_eq_false (show ¬ (0 : Int) < ((carry 10000 x y i : Nat) : Int) by omega)) ?_); (conv => whnf)))
      refine branchT (fits_ok (Nat.le_refl 8) (by show i + 1 ≤ _; omega)) ?_
      conv => whnf
      refine ⟨rfl, ⟨i + 1, ?gi1, ?gb1, ?gs1⟩, [2], ?inv1, ?mu1, rfl, ?ls1⟩
      case ls1 =>
        repeat' constructor
        · exact (leaf _ (by show IntKind.i64.wrap (IntKind.i64.wrap (((carry 10000 x y i : Nat) : Int) + ((dg 10000 x i : Nat) : Int)) + ((dg 10000 y i : Nat) : Int)) = _; rw [w64_in (x := ((carry 10000 x y i : Nat) : Int) + ((dg 10000 x i : Nat) : Int)) (by omega), w64_in (by omega)]; omega)).2
        · exact w64_nat (by omega)
        all_goals exact rfl
      case mu1 => show m + 1 - (i + 1) < m + 1 - i; omega
      case inv1 =>
        refine ⟨by show i + 1 ≤ m + 1; omega, (fun h => by have h : i + 1 = m + 1 := h; obtain rfl : i = m := by omega
                                                           omega), ?_⟩
        exact push_at hg (v := (IntKind.i64.wrap (IntKind.i64.wrap (((carry 10000 x y i : Nat) : Int) + ((dg 10000 x i : Nat) : Int)) + ((dg 10000 y i : Nat) : Int))).tmod 10000) rfl (leaf _ (by show IntKind.i64.wrap (IntKind.i64.wrap (((carry 10000 x y i : Nat) : Int) + ((dg 10000 x i : Nat) : Int)) + ((dg 10000 y i : Nat) : Int)) = _; rw [w64_in (x := ((carry 10000 x y i : Nat) : Int) + ((dg 10000 x i : Nat) : Int)) (by omega), w64_in (by omega)]; omega)).1
    · conv => whnf
      repeat (first
        | ((refine branchT (decide_eq_true (by omega)) ?_); (conv => whnf))
        | ((refine branchF (decide_eq_false (by omega)) ?_); (conv => whnf))
        | ((refine branchT (guardI (by omega)) ?_); (conv => whnf))
        | ((refine branchT (decide_eq_true (show (0 : Int) < ((carry 10000 x y i : Nat) : Int) by omega)) ?_); (conv => whnf))
        | ((refine branchF (decide_eq_false (show ¬ (0 : Int) < ((carry 10000 x y i : Nat) : Int) by omega)) ?_); (conv => whnf)))
      refine branchT (fits_ok (Nat.le_refl 8) (by show i + 1 ≤ _; omega)) ?_
      conv => whnf
      refine ⟨rfl, ⟨i + 1, ?gi2, ?gb2, ?gs2⟩, [2], ?inv2, ?mu2, rfl, ?ls2⟩
      case ls2 =>
        repeat' constructor
        · exact (leaf _ (by show IntKind.i64.wrap (((carry 10000 x y i : Nat) : Int) + ((dg 10000 x i : Nat) : Int)) = _; have := hy0 hy1; rw [w64_in (by omega)]; omega)).2
        · exact w64_nat (by omega)
        all_goals exact rfl
      case mu2 => show m + 1 - (i + 1) < m + 1 - i; omega
      case inv2 =>
        refine ⟨by show i + 1 ≤ m + 1; omega, (fun h => by have h : i + 1 = m + 1 := h; obtain rfl : i = m := by omega
                                                           omega), ?_⟩
        exact push_at hg (v := (IntKind.i64.wrap (((carry 10000 x y i : Nat) : Int) + ((dg 10000 x i : Nat) : Int))).tmod 10000) rfl (leaf _ (by show IntKind.i64.wrap (((carry 10000 x y i : Nat) : Int) + ((dg 10000 x i : Nat) : Int)) = _; have := hy0 hy1; rw [w64_in (by omega)]; omega)).1
    · conv => whnf
      repeat (first
        | ((refine branchT (decide_eq_true (by omega)) ?_); (conv => whnf))
        | ((refine branchF (decide_eq_false (by omega)) ?_); (conv => whnf))
        | ((refine branchT (guardI (by omega)) ?_); (conv => whnf))
        | ((refine branchT (decide_eq_true (show (0 : Int) < ((carry 10000 x y i : Nat) : Int) by omega)) ?_); (conv => whnf))
        | ((refine branchF (decide_eq_false (show ¬ (0 : Int) < ((carry 10000 x y i : Nat) : Int) by omega)) ?_); (conv => whnf)))
      refine branchT (fits_ok (Nat.le_refl 8) (by show i + 1 ≤ _; omega)) ?_
      conv => whnf
      refine ⟨rfl, ⟨i + 1, ?gi3, ?gb3, ?gs3⟩, [2], ?inv3, ?mu3, rfl, ?ls3⟩
      case ls3 =>
        repeat' constructor
        · exact (leaf _ (by show IntKind.i64.wrap (((carry 10000 x y i : Nat) : Int) + ((dg 10000 y i : Nat) : Int)) = _; have := hx0 hx1; rw [w64_in (by omega)]; omega)).2
        · exact w64_nat (by omega)
        all_goals exact rfl
      case mu3 => show m + 1 - (i + 1) < m + 1 - i; omega
      case inv3 =>
        refine ⟨by show i + 1 ≤ m + 1; omega, (fun h => by have h : i + 1 = m + 1 := h; obtain rfl : i = m := by omega
                                                           omega), ?_⟩
        exact push_at hg (v := (IntKind.i64.wrap (((carry 10000 x y i : Nat) : Int) + ((dg 10000 y i : Nat) : Int))).tmod 10000) rfl (leaf _ (by show IntKind.i64.wrap (((carry 10000 x y i : Nat) : Int) + ((dg 10000 y i : Nat) : Int)) = _; have := hx0 hx1; rw [w64_in (by omega)]; omega)).1
    · conv => whnf
      repeat (first
        | ((refine branchT (decide_eq_true (by omega)) ?_); (conv => whnf))
        | ((refine branchF (decide_eq_false (by omega)) ?_); (conv => whnf))
        | ((refine branchT (guardI (by omega)) ?_); (conv => whnf))
        | ((refine branchT (decide_eq_true (show (0 : Int) < ((carry 10000 x y i : Nat) : Int) by omega)) ?_); (conv => whnf))
        | ((refine branchF (decide_eq_false (show ¬ (0 : Int) < ((carry 10000 x y i : Nat) : Int) by omega)) ?_); (conv => whnf)))
      refine branchT (fits_ok (Nat.le_refl 8) (by show i + 1 ≤ _; omega)) ?_
      conv => whnf
      refine ⟨rfl, ⟨i + 1, ?gi4, ?gb4, ?gs4⟩, [2], ?inv4, ?mu4, rfl, ?ls4⟩
      case ls4 =>
        repeat' constructor
        · exact (leaf _ (by show ((carry 10000 x y i : Nat) : Int) = _; have := hx0 hx1; have := hy0 hy1; omega)).2
        · exact w64_nat (by omega)
        all_goals exact rfl
      case mu4 => show m + 1 - (i + 1) < m + 1 - i; omega
      case inv4 =>
        refine ⟨by show i + 1 ≤ m + 1; omega, (fun h => by have h : i + 1 = m + 1 := h; obtain rfl : i = m := by omega
                                                           omega), ?_⟩
        exact push_at hg (v := (((carry 10000 x y i : Nat) : Int)).tmod 10000) rfl (leaf _ (by show ((carry 10000 x y i : Nat) : Int) = _; have := hx0 hx1; have := hy0 hy1; omega)).1
  · conv => whnf
    repeat (first
      | ((refine branchT (decide_eq_true (by omega)) ?_); (conv => whnf))
      | ((refine branchF (decide_eq_false (by omega)) ?_); (conv => whnf))
      | ((refine branchT (guardI (by omega)) ?_); (conv => whnf))
      | ((refine branchT (decide_eq_true (show (0 : Int) < ((carry 10000 x y i : Nat) : Int) by omega)) ?_); (conv => whnf))
      | ((refine branchF (decide_eq_false (show ¬ (0 : Int) < ((carry 10000 x y i : Nat) : Int) by omega)) ?_); (conv => whnf)))
    have hk : i = kS x y := by
      unfold kS
      rw [← hmx]
      by_cases h0 : carry 10000 x y m = 0
      · have : i ≠ m + 1 := fun h => by have := hl h; omega
        omega
      · have c1 := carry_le (b := 10000) (by omega) x y m
        have : i ≠ m := fun h => by rw [h] at hc; omega
        omega
    rw [← hk]
    refine RetSub.of (SubV.ro fun j hj => ?_)
    show [V.int .i64 (gi (0 + j) 0)] = [V.int .i64 ((dg 10000 (x + y) j : Nat) : Int)]
    rw [Nat.zero_add, hg j hj]
theorem kS_lt (x y : Nat) : x + y < 10000 ^ kS x y := by
  unfold kS
  obtain ⟨m, hm⟩ : ∃ m, m = max (nl 10000 x) (nl 10000 y) := ⟨_, rfl⟩
  rw [← hm]
  have px := pow_mono' (show nl 10000 x ≤ m by omega)
  have py := pow_mono' (show nl 10000 y ≤ m by omega)
  have lx := lt_pow_nl (b := 10000) (by omega) x
  have ly := lt_pow_nl (b := 10000) (by omega) y
  have e := carry_end (b := 10000) (x := x) (y := y) (i := m) (by omega) (by omega)
  have c1 := carry_le (b := 10000) (by omega) x y m
  by_cases h0 : carry 10000 x y m = 0
  · rw [h0] at e ⊢
    exact (Nat.div_eq_zero_iff_lt (Nat.pow_pos (by omega))).1 e
  · rw [show carry 10000 x y m = 1 by omega, Nat.pow_succ]
    omega
/-- A whole number of the reference's. -/
abbrev plainZ (z : Int) : V := plainV (decide (z < 0)) z.natAbs
theorem plainV_eq {b : Bool} {n : Nat} {z : Int} (h1 : z.natAbs = n) (h2 : b = true → z ≤ 0) (h3 : b = false → 0 ≤ z) : plainV (b && !decide (n = 0)) n = plainZ z := by
  unfold plainZ
  rw [h1]
  congr 1
  cases b with
  | true =>
    have := h2 rfl
    by_cases h0 : n = 0
    · simp [h0]; omega
    · simp [h0]; omega
  | false =>
    have := h3 rfl
    simp; omega
theorem rplus_pure (x y : Int) (hx : nl 10000 x.natAbs < 100000000) (hy : nl 10000 y.natAbs < 100000000) :
    Pure Tryz.prog 72 [plainZ x, plainZ y] (fun o => o = .ret (plainZ (x + y))) := by
  refine pure_of Tryz.func72 rfl 200 ?_
  conv => whnf
  refine branchI (fun h1 => ?_) (fun h1 => ?_)
  · have h1 : (decide (x < 0) == decide (y < 0)) = true := h1
    have h1 : (x < 0 ↔ y < 0) := by simpa using h1
    conv => whnf
    refine ⟨_, _, callD (rsum_pure2 x.natAbs y.natAbs hx hy) rfl (.inr rfl), ?_⟩
    conv => whnf
    have kb : kS x.natAbs y.natAbs < 4611686018427387904 := by
      unfold kS
      have := carry_le (b := 10000) (by omega) x.natAbs y.natAbs (max (nl 10000 x.natAbs) (nl 10000 y.natAbs))
      omega
    refine callP1 (made_pure (decide (x < 0)) (x.natAbs + y.natAbs) (kS x.natAbs y.natAbs) _ rfl (kS_lt _ _) kb rfl) rfl ?_
    conv => whnf
    exact retV (plainV_eq (z := x + y) (by omega) (fun h => by simp at h; omega) (fun h => by simp at h; omega))
  · have h1 : (decide (x < 0) == decide (y < 0)) = false := h1
    have h1 : ¬ (x < 0 ↔ y < 0) := by simpa using h1
    conv => whnf
    refine callP (rorder_pure x.natAbs y.natAbs (by omega) (by omega)) rfl ?_
    rintro _ ⟨c, rfl, hc⟩
    conv => whnf
    refine branchI (fun h2 => ?_) (fun h2 => ?_)
    · have h2 : decide (0 ≤ c) = true := h2
      have hle := hc.1 (of_decide_eq_true h2)
      have kb := nl_mono (b := 10000) (by omega) (Nat.sub_le x.natAbs y.natAbs)
      conv => whnf
      refine ⟨_, _, callD (rdiff_pure x.natAbs y.natAbs hle hx) rfl (.inr rfl), ?_⟩
      conv => whnf
      refine callP1 (made_pure (decide (x < 0)) (x.natAbs - y.natAbs) (nl 10000 (x.natAbs - y.natAbs)) _ rfl (lt_pow_nl (by omega) _) (by omega) rfl) rfl ?_
      conv => whnf
      exact retV (plainV_eq (z := x + y) (by omega) (fun h => by simp at h; omega) (fun h => by simp at h; omega))
    · have h2 : decide (0 ≤ c) = false := h2
      have hle : x.natAbs ≤ y.natAbs := by
        have := of_decide_eq_false h2
        rw [hc] at this
        omega
      have kb := nl_mono (b := 10000) (by omega) (Nat.sub_le y.natAbs x.natAbs)
      conv => whnf
      refine ⟨_, _, callD (rdiff_pure y.natAbs x.natAbs hle hy) rfl (.inr rfl), ?_⟩
      conv => whnf
      refine callP1 (made_pure (decide (y < 0)) (y.natAbs - x.natAbs) (nl 10000 (y.natAbs - x.natAbs)) _ rfl (lt_pow_nl (by omega) _) (by omega) rfl) rfl ?_
      conv => whnf
      exact retV (plainV_eq (z := x + y) (by omega) (fun h => by simp at h; omega) (fun h => by simp at h; omega))
/-- What is left of an integer behind its i lowest digits. -/
def vI (n : Int) (i : Nat) : Int := if n < 0 then -((n.natAbs / 10000 ^ i : Nat) : Int) else ((n.natAbs / 10000 ^ i : Nat) : Int)
theorem vI_zero (n : Int) : vI n 0 = n := by unfold vI; split <;> simp <;> omega
theorem vI_succ (n : Int) (i : Nat) : vI n (i + 1) = (vI n i).tdiv 10000 := by
  have e : n.natAbs / 10000 ^ (i + 1) = n.natAbs / 10000 ^ i / 10000 := by rw [Nat.pow_succ, Nat.div_div_eq_div_mul]
  unfold vI
  rw [e]
  split
  · rw [Int.neg_tdiv, show (10000 : Int) = ((10000 : Nat) : Int) from rfl, tdiv_nat]
  · rw [show (10000 : Int) = ((10000 : Nat) : Int) from rfl, tdiv_nat]
theorem vI_rem (n : Int) (i : Nat) : (vI n i).tmod 10000 = if n < 0 then -((dg 10000 n.natAbs i : Nat) : Int) else ((dg 10000 n.natAbs i : Nat) : Int) := by
  unfold vI dg
  split
  · rw [Int.neg_tmod, show (10000 : Int) = ((10000 : Nat) : Int) from rfl, tmod_nat]
  · rw [show (10000 : Int) = ((10000 : Nat) : Int) from rfl, tmod_nat]
theorem vI_ne {n : Int} {i : Nat} : vI n i ≠ 0 ↔ i < nl 10000 n.natAbs := by
  rw [nl_lt (by omega)]
  have hp : 0 < 10000 ^ i := Nat.pow_pos (by omega)
  have : n.natAbs / 10000 ^ i = 0 ↔ n.natAbs < 10000 ^ i := Nat.div_eq_zero_iff_lt hp
  unfold vI
  split <;> omega
theorem vI_abs (n : Int) (i : Nat) : (vI n i).natAbs ≤ n.natAbs := by
  have := Nat.div_le_self n.natAbs (10000 ^ i)
  unfold vI
  generalize n.natAbs / 10000 ^ i = q at *
  split <;> omega
theorem vI_abs1 (n : Int) (i : Nat) : (vI n (i + 1)).natAbs ≤ n.natAbs / 10000 := by
  have e : n.natAbs / 10000 ^ (i + 1) = n.natAbs / 10000 / 10000 ^ i := by rw [Nat.pow_succ', Nat.div_div_eq_div_mul]
  have := Nat.div_le_self (n.natAbs / 10000) (10000 ^ i)
  unfold vI
  rw [e]
  generalize n.natAbs / 10000 / 10000 ^ i = q at *
  split <;> omega
theorem rint_pure (n : Int) (hn : -9223372036854775808 ≤ n ∧ n ≤ 9223372036854775807) :
    Pure Tryz.prog 70 [i64 n] (fun o => o = .ret (plainZ n)) := by
  refine pure_of Tryz.func70 rfl 200 ?_
  have hl : nl 10000 n.natAbs ≤ 5 := (nl_le (by omega)).2 (by omega)
  conv => whnf
  refine loop_inv Tryz.eok 180 (fun s : Gh => s.1 ≤ nl 10000 n.natAbs ∧ ∀ j, j < s.1 → s.2.1 j 0 = (dg 10000 n.natAbs j : Nat)) (fun s => nl 10000 n.natAbs - s.1)
    (fun s => slots [(0, i64 (vI n s.1)), (2, .ptr 0 0 0), (3, .sl 1 1 0 s.1 s.1), (4, .bool (decide (n < 0)))] 0 25)
    (fun s => [.fix 117 [.bool false, .nilSl], .arr 3 [.int .i64] s.2.1 s.2.2.1 s.2.2.2]) ⟨0, fun _ _ => 0, fun _ _ => false, fun _ _ => []⟩ [1000000] ⟨by omega, fun j hj => absurd hj (Nat.not_lt_zero j)⟩ ?_ rfl ?_
  · repeat' constructor
    all_goals first | exact rfl | exact (vI_zero n).symm
  rintro ⟨i, gi, gb, gs⟩ ⟨hi, hg⟩
  have hi : i ≤ nl 10000 n.natAbs := hi
  have hg : ∀ j, j < i → gi j 0 = (dg 10000 n.natAbs j : Nat) := hg
  have dd := dg_lt (b := 10000) (by omega) n.natAbs i
  have va := vI_abs n i
  have vs := vI_succ n i
  have va1 := vI_abs1 n i
  have vr := vI_rem n i
  conv => whnf
  refine branchI (fun h1 => ?_) (fun h1 => ?_)
  · have h1 : (vI n i != 0) = true := h1
    have h1 : vI n i ≠ 0 := by simpa using h1
    have hc := vI_ne.1 h1
    have wd : IntKind.i64.wrap ((vI n i).tdiv 10000) = vI n (i + 1) := by rw [← vs]; exact w64_in (by omega)
    conv => whnf
    refine branchI (fun h2 => ?_) (fun h2 => ?_)
    · have h2 : decide ((vI n i).tmod 10000 < 0) = true := h2
      have h2 := of_decide_eq_true h2
      conv => whnf
      refine branchT (fits_ok (Nat.le_refl 8) (by show i + 1 ≤ _; omega)) ?_
      conv => whnf
      refine ⟨rfl, ⟨i + 1, ?gi1, ?gb1, ?gs1⟩, [3], ?inv1, ?mu1, rfl, ?ls1⟩
      case ls1 =>
        repeat' constructor
        all_goals first | exact rfl | exact wd | skip
      case mu1 => show nl 10000 n.natAbs - (i + 1) < nl 10000 n.natAbs - i; omega
      case inv1 =>
        refine ⟨by show i + 1 ≤ nl 10000 n.natAbs; omega, push_at hg (v := IntKind.i64.wrap (0 - (vI n i).tmod 10000)) rfl ?_⟩
        rw [vr] at h2 ⊢
        split at h2
        · rw [if_pos (by assumption), Int.zero_sub, Int.neg_neg]; exact w64_in (by omega)
        · omega
    · have h2 : decide ((vI n i).tmod 10000 < 0) = false := h2
      have h2 := of_decide_eq_false h2
      conv => whnf
      refine branchT (fits_ok (Nat.le_refl 8) (by show i + 1 ≤ _; omega)) ?_
      conv => whnf
      refine ⟨rfl, ⟨i + 1, ?gi2, ?gb2, ?gs2⟩, [3], ?inv2, ?mu2, rfl, ?ls2⟩
      case ls2 =>
        repeat' constructor
        all_goals first | exact rfl | exact wd | skip
      case mu2 => show nl 10000 n.natAbs - (i + 1) < nl 10000 n.natAbs - i; omega
      case inv2 =>
        refine ⟨by show i + 1 ≤ nl 10000 n.natAbs; omega, push_at hg (v := (vI n i).tmod 10000) rfl ?_⟩
        rw [vr] at h2 ⊢
        split at h2
        · rw [if_pos (by assumption)]; omega
        · rw [if_neg (by assumption)]
  · have h1 : (vI n i != 0) = false := h1
    have h1 : vI n i = 0 := by simpa using h1
    obtain rfl : i = nl 10000 n.natAbs := by
      have : ¬ i < nl 10000 n.natAbs := fun h => vI_ne.2 h h1
      omega
    conv => whnf
    refine callP1 ((made_pure (decide (n < 0)) n.natAbs (nl 10000 n.natAbs) _ rfl (lt_pow_nl (by omega) _) (by omega) rfl).args (.cons (.refl _) (.cons (SubV.ro (f := fun j => [.int .i64 (gi (0 + j) 0)]) fun j hj => ?_) .nil))) rfl ?_
    · show [V.int .i64 (gi (0 + j) 0)] = [V.int .i64 ((dg 10000 n.natAbs j : Nat) : Int)]
      rw [Nat.zero_add, hg j hj]
    conv => whnf
    exact retV (plainV_eq (z := n) rfl (fun h => by simp at h; omega) (fun h => by simp at h; omega))
end Go.Proofs.YtkhbmendaapojaaGreatDoor
/- The reference's numbers as texts. -/
namespace Go.Proofs.YtkhbmendaapojaaGreatDoor
open Go Go.Vx Go.Num
set_option maxRecDepth 100000
attribute [local irreducible] CallV LoopV CodeV
theorem four_pure (n : Nat) (hn : n < 10000) :
    Pure Tryz.prog 126 [i64 n] (fun o => o = .ret (.str (decD n 4))) := by
  refine pure_of Tryz.func126 rfl 100 ?_
  conv => whnf
  refine retS ?_
  have q : ∀ (a : Int) (d : Nat), a = (d : Int) → d < 10 → UInt8.ofNat (IntKind.u8.wrap (IntKind.i64.wrap (48 + a))).toNat = dch d := by
    rintro a d rfl hd
    rw [show IntKind.i64.wrap (48 + (d : Int)) = 48 + d from w64_in (by omega)]
    have e : IntKind.u8.wrap (48 + (d : Int)) = 48 + d := by
      have h : d = 0 ∨ d = 1 ∨ d = 2 ∨ d = 3 ∨ d = 4 ∨ d = 5 ∨ d = 6 ∨ d = 7 ∨ d = 8 ∨ d = 9 := by omega
      rcases h with rfl | rfl | rfl | rfl | rfl | rfl | rfl | rfl | rfl | rfl <;> decide
    rw [e]
    rfl
  have e3 : IntKind.i64.wrap ((n : Int).tdiv 1000) = ((dg 10 n 3 : Nat) : Int) := by
    rw [show (1000 : Int) = ((1000 : Nat) : Int) from rfl, tdiv_nat, w64_in (by omega)]; unfold dg; omega
  have e2 : (IntKind.i64.wrap ((n : Int).tdiv 100)).tmod 10 = ((dg 10 n 2 : Nat) : Int) := by
    rw [show (100 : Int) = ((100 : Nat) : Int) from rfl, tdiv_nat, w64_in (by omega), show (10 : Int) = ((10 : Nat) : Int) from rfl, tmod_nat]; rfl
  have e1 : (IntKind.i64.wrap ((n : Int).tdiv 10)).tmod 10 = ((dg 10 n 1 : Nat) : Int) := by
    rw [show (10 : Int) = ((10 : Nat) : Int) from rfl, tdiv_nat, w64_in (by omega), tmod_nat]; rfl
  have e0 : (n : Int).tmod 10 = ((dg 10 n 0 : Nat) : Int) := by
    rw [show (10 : Int) = ((10 : Nat) : Int) from rfl, tmod_nat]; unfold dg; simp
  show [UInt8.ofNat (IntKind.u8.wrap (IntKind.i64.wrap (48 + IntKind.i64.wrap ((n : Int).tdiv 1000)))).toNat, UInt8.ofNat (IntKind.u8.wrap (IntKind.i64.wrap (48 + (IntKind.i64.wrap ((n : Int).tdiv 100)).tmod 10))).toNat,
    UInt8.ofNat (IntKind.u8.wrap (IntKind.i64.wrap (48 + (IntKind.i64.wrap ((n : Int).tdiv 10)).tmod 10))).toNat, UInt8.ofNat (IntKind.u8.wrap (IntKind.i64.wrap (48 + (n : Int).tmod 10))).toNat] = [dch (dg 10 n 3), dch (dg 10 n 2), dch (dg 10 n 1), dch (dg 10 n 0)]
  rw [q _ _ e3 (dg_lt (by omega) _ _), q _ _ e2 (dg_lt (by omega) _ _), q _ _ e1 (dg_lt (by omega) _ _), q _ _ e0 (dg_lt (by omega) _ _)]
theorem text_step (n q m : Nat) : decD (n / 10000 ^ (q + 1)) (4 * m) ++ decD (dg 10000 n q) 4 = decD (n / 10000 ^ q) (4 * (m + 1)) := by
  rw [show 4 * (m + 1) = 4 * m + 4 by omega, decD_add, Nat.pow_succ, ← Nat.div_div_eq_div_mul]
  rw [show (10000 : Nat) = 10 ^ 4 from rfl]
  congr 1
  exact decD_mod (n / (10 ^ 4) ^ q) 4
theorem rtext_pure (z : Int) (hz : nl 10000 z.natAbs < 100000) :
    Pure Tryz.prog 98 [plainZ z] (fun o => o = .ret (.str (decZ z))) := by
  refine pure_of Tryz.func98 rfl 200 ?_
  obtain ⟨n, hn⟩ : ∃ n, n = z.natAbs := ⟨_, rfl⟩
  obtain ⟨K, hK⟩ : ∃ K, K = nl 10000 n := ⟨_, rfl⟩
  rw [← hn, ← hK] at hz
  conv => whnf
  refine loop_inv Tryz.eok 180 (fun m : Nat => m ≤ K) (fun m => K - m)
    (fun m => slots [(1, .ptr 0 0 0), (3, .str (decD (n / 10000 ^ (K - m)) (4 * m))), (4, i64 ((K : Int) - 1 - (m : Nat)))] 0 44)
    (fun m => [.fix 117 [.bool (decide (z < 0)), plainR z.natAbs]]) 0 [] (Nat.zero_le _) ?l0 rfl ?_
  case l0 =>
    repeat' constructor
    all_goals first | exact rfl | skip
    show IntKind.i64.wrap ((nl 10000 z.natAbs : Int) - 1) = (K : Int) - 1 - (0 : Nat)
    rw [← hn, ← hK, w64_in (by omega)]
    omega
  intro m hm
  have hm : m ≤ K := hm
  by_cases hc : m < K
  · obtain ⟨q, hq⟩ : ∃ q, K = m + 1 + q := ⟨K - m - 1, by omega⟩
    have ei : (K : Int) - 1 - (m : Nat) = (q : Nat) := by omega
    conv => whnf
    refine branchT (decide_eq_true (show (0 : Int) ≤ (K : Int) - 1 - (m : Nat) by omega)) ?_
    conv => whnf
    refine branchT (guardI (a := (K : Int) - 1 - (m : Nat)) (n := nl 10000 z.natAbs) ⟨by omega, by rw [← hn, ← hK]; omega⟩) ?_
    conv => whnf
    have hf := four_pure (dg 10000 n q) (dg_lt (by omega) _ _)
    obtain ⟨l4, hl4⟩ : ∃ l, l = decD (dg 10000 n q) 4 := ⟨_, rfl⟩
    rw [← hl4] at hf
    refine callF1 hf ?_ rfl ?_
    · show [i64 ((dg 10000 z.natAbs ((K : Int) - 1 - (m : Nat)).toNat : Nat) : Int)] = _
      rw [ei, ← hn]; rfl
    conv => whnf
    refine branchT (decide_eq_true (show (((decD (n / 10000 ^ (K - m)) (4 * m)).length + l4.length : Nat) : Int) ≤ 9223372036854775807 by rw [hl4, decD_length, decD_length]; omega)) ?_
    conv => whnf
    refine ⟨rfl, m + 1, [], ?_, ?_, rfl, ?_⟩
    · show m + 1 ≤ K; omega
    · show K - (m + 1) < K - m; omega
    · repeat' constructor
      all_goals first | exact rfl | skip
      · show decD (n / 10000 ^ (K - m)) (4 * m) ++ l4 = decD (n / 10000 ^ (K - (m + 1))) (4 * (m + 1))
        rw [hl4, show K - m = q + 1 by omega, show K - (m + 1) = q by omega]
        exact text_step n q m
      · show IntKind.i64.wrap ((K : Int) - 1 - (m : Nat) - 1) = (K : Int) - 1 - ((m + 1 : Nat) : Int)
        rw [w64_in (by omega)]; omega
  · obtain rfl : m = K := by omega
    conv => whnf
    refine branchF (decide_eq_false (show ¬ (0 : Int) ≤ (m : Int) - 1 - (m : Nat) by omega)) ?_
    conv => whnf
    obtain ⟨S, hS⟩ : ∃ S, decD (n / 10000 ^ (m - m)) (4 * m) = S := ⟨_, rfl⟩
    rw [hS]
    have hSn : S = decD n (4 * m) := by rw [← hS, Nat.sub_self, Nat.pow_zero, Nat.div_one]
    obtain ⟨L, hL⟩ : ∃ L, L = nl 10 n := ⟨_, rfl⟩
    have hn10 : n < 10 ^ (4 * m) := by
      rw [Nat.pow_mul, show (10 ^ 4 : Nat) = 10000 from rfl, hK]
      exact lt_pow_nl (by omega) n
    have hLm : L ≤ 4 * m := by rw [hL]; exact (nl_le (by omega)).2 hn10
    obtain ⟨zc, hz4⟩ : ∃ zc, 4 * m = zc + L := ⟨4 * m - L, by omega⟩
    have hpad : S = List.replicate zc 48 ++ decD n L := by
      rw [hSn, hz4]; exact decD_pad n (by rw [hL]; exact lt_pow_nl (by omega) n)
    have hlen : S.length = zc + L := by rw [hSn, decD_length, hz4]
    have h48 : ∀ j, j < zc → (byteAt S j == 48) = true := fun j hj => by
      have : S.getD j 0 = 48 := by rw [hpad, List.getD_eq_getElem?_getD, List.getElem?_append_left (by simp; exact hj)]; simp [hj]
      rw [byteAt, this]; rfl
    have hne : 0 < L → (byteAt S zc == 48) = false := fun h0 => by
      obtain ⟨L1, hL1⟩ : ∃ L1, L = L1 + 1 := ⟨L - 1, by omega⟩
      have : S.getD zc 0 = dch (dg 10 n L1) := by
        rw [hpad, List.getD_eq_getElem?_getD, List.getElem?_append_right (by simp), hL1]; simp [decD]
      have hd := dg_lt (b := 10) (by omega) n L1
      have ht : dg 10 n L1 ≠ 0 := by
        have := dg_top (b := 10) (by omega) (n := n) (fun h => by subst h; rw [nl_zero] at hL; omega)
        rw [← hL, hL1] at this
        exact this
      rw [byteAt, this, dch_toNat hd]
      simp; omega
    have hdrop : (S.take (S.length : Int).toNat).drop ((zc : Int)).toNat = decD n L := by
      rw [Int.toNat_natCast, Int.toNat_natCast, List.take_length, hpad, List.drop_left' (by simp)]
    refine loop_inv Tryz.eok 180 (fun k : Nat => k ≤ zc) (fun k => zc - k)
      (fun k => slots [(1, .ptr 0 0 0), (3, .str S), (5, i64 (k : Nat))] 0 44)
      (fun k => [.fix 117 [.bool (decide (z < 0)), plainR z.natAbs]]) 0 [] (Nat.zero_le _) ?l1 rfl ?_
    case l1 =>
      repeat' constructor
      all_goals exact rfl
    intro k hk
    have hk : k ≤ zc := hk
    have fin : ∀ (Y : List UInt8), Y = decD n L → n ≠ 0 → decZ z = if z < 0 then 45 :: Y else Y := by
      rintro Y rfl h0
      rw [decZ, decN, ← hn, if_neg h0, ← hL]
    by_cases hkz : k < zc
    · conv => whnf
      refine branchT (decide_eq_true (show (k : Int) < (S.length : Int) by omega)) ?_
      conv => whnf
      refine branchT (guardI (a := (k : Int)) (n := S.length) ⟨by omega, by omega⟩) ?_
      conv => whnf
      refine branchT (h48 k hkz) ?_
      conv => whnf
      refine ⟨rfl, k + 1, [], hkz, by show zc - (k + 1) < zc - k; omega, rfl, ?_⟩
      repeat' constructor
      all_goals first | exact rfl | exact w64_nat (by omega)
    · obtain rfl : k = zc := by omega
      by_cases h0 : L = 0
      · have n0 : n = 0 := (nl_eq_zero (b := 10) (by omega)).1 (by omega)
        conv => whnf
        refine branchF (decide_eq_false (show ¬ (k : Int) < (S.length : Int) by omega)) ?_
        conv => whnf
        refine branchT (show (decide (0 ≤ (k : Int)) && (decide ((k : Int) ≤ (S.length : Int)) && decide ((S.length : Int) ≤ (S.length : Int)))) = true by simp; omega) ?_
        conv => whnf
        refine branchT (show ((S.take (S.length : Int).toNat).drop ((k : Int)).toNat == ([] : List UInt8)) = true by rw [hdrop, h0]; rfl) ?_
        conv => whnf
        refine retS ?_
        have : z = 0 := by omega
        subst this
        rfl
      · have n0 : n ≠ 0 := fun h => h0 (by rw [hL, h]; rfl)
        conv => whnf
        refine branchT (decide_eq_true (show (k : Int) < (S.length : Int) by omega)) ?_
        conv => whnf
        refine branchT (guardI (a := (k : Int)) (n := S.length) ⟨by omega, by omega⟩) ?_
        conv => whnf
        refine branchF (hne (by omega)) ?_
        conv => whnf
        refine branchT (show (decide (0 ≤ (k : Int)) && (decide ((k : Int) ≤ (S.length : Int)) && decide ((S.length : Int) ≤ (S.length : Int)))) = true by simp; omega) ?_
        conv => whnf
        refine branchF (show ((S.take (S.length : Int).toNat).drop ((k : Int)).toNat == ([] : List UInt8)) = false by
          rw [hdrop]
          obtain ⟨L1, hL1⟩ : ∃ L1, L = L1 + 1 := ⟨L - 1, by omega⟩
          rw [hL1]; rfl) ?_
        conv => whnf
        refine branchI (fun hb => ?_) (fun hb => ?_)
        · have hb : decide (z < 0) = true := hb
          conv => whnf
          refine branchT (decide_eq_true (show ((([45] : List UInt8).length + ((S.take (S.length : Int).toNat).drop ((k : Int)).toNat).length : Nat) : Int) ≤ 9223372036854775807 by rw [hdrop, decD_length]; simp; omega)) ?_
          conv => whnf
          refine retS ?_
          rw [fin _ hdrop n0, if_pos (of_decide_eq_true hb)]
          rfl
        · have hb : decide (z < 0) = false := hb
          conv => whnf
          refine retS ?_
          rw [fin _ hdrop n0, if_neg (of_decide_eq_false hb)]
end Go.Proofs.YtkhbmendaapojaaGreatDoor
