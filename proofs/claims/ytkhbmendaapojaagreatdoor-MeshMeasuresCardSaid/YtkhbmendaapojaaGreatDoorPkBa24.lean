/- Whole numbers as texts: Read, Sum, Add. Volume6: the sum of determinants, told as a whole number. A mesh's flaw asked (flawed), the determinant of three differences (det). The examples' meshes: their flaws. Moved. Box. The chapter's examples: what each call answers. The chapter's examples: works. MeshFlaws: Flaw, Check and Same answer as the reference does. (Printed by mfgen.py.) -/
import Derived.Test.YtkhbmendaapojaaGreatDoorPkBa21
import Derived.Test.YtkhbmendaapojaaGreatDoorPkBa23
import Derived.Test.YtkhbmendaapojaaGreatDoorPkBa16
import Derived.Test.YtkhbmendaapojaaGreatDoorPkBa15
import Derived.Test.YtkhbmendaapojaaGreatDoorPkBa14
import Derived.Test.YtkhbmendaapojaaGreatDoorPkBa13
import Derived.Test.YtkhbmendaapojaaGreatDoorPkBa18
set_option linter.unusedSimpArgs false
set_option linter.unusedVariables false
/- Whole numbers as texts: Read, Sum, Add. -/
namespace Go.Proofs.YtkhbmendaapojaaGreatDoor
open Go Go.Vx Go.Num
set_option maxRecDepth 100000
attribute [local irreducible] CallV LoopV CodeV
abbrev Gw := Nat × (Nat → Nat → Int) × (Nat → Nat → Bool) × (Nat → Nat → List UInt8)
theorem tpre_z (z : Int) : Pure Tryz.prog 117 [.str (decZ z), .str [45]] (fun o => o = .ret (.str (decN z.natAbs))) := by
  rw [← bodyW_decZ]; exact tpre_pure _
theorem sgn_byte (z : Int) : (byteAt (decZ z) 0 == 45) = decide (z < 0) := by
  by_cases h : z < 0
  · rw [decide_eq_true h]; unfold decZ; rw [if_pos h]; rfl
  · rw [decide_eq_false h]; unfold decZ; rw [if_neg h]
    have hd := decN_isD z.natAbs
    match he : decN z.natAbs, hd with
    | [], _ => rfl
    | c :: t, hd =>
      have hc : isD c = true := hd c (by simp)
      unfold isD at hc
      simp only [Bool.and_eq_true, decide_eq_true_eq] at hc
      show (((c.toNat : Nat) : Int) == 45) = false
      rw [beq_eq_false_iff_ne]; omega
theorem read_take (n L k : Nat) (h : 18 ≤ L - 18 * k) : List.take (L - 18 * k - 18) (decD (n / 10 ^ (18 * k)) (L - 18 * k)) = decD (n / 10 ^ (18 * (k + 1))) (L - 18 * (k + 1)) := by
  rw [decD_take _ h, Nat.div_div_eq_div_mul, ← Nat.pow_add, show 18 * k + 18 = 18 * (k + 1) by omega, show L - 18 * k - 18 = L - 18 * (k + 1) by omega]
theorem read_dg {n L k m : Nat} (hL : n < 10 ^ L) (hm : m = min 18 (L - 18 * k)) : (n / 10 ^ (18 * k)) % 10 ^ m = dg 1000000000000000000 n k := by
  unfold dg
  rw [pow18, show (1000000000000000000 : Nat) = 10 ^ 18 by decide]
  by_cases h : 18 ≤ L - 18 * k
  · rw [hm, Nat.min_eq_left h]
  · have hlt : n / 10 ^ (18 * k) < 10 ^ m := by
      rw [Nat.div_lt_iff_lt_mul (Nat.pow_pos (by omega)), ← Nat.pow_add]
      exact Nat.lt_of_lt_of_le hL (Nat.pow_le_pow_right (by omega) (by omega))
    rw [Nat.mod_eq_of_lt hlt, Nat.mod_eq_of_lt (Nat.lt_of_lt_of_le hlt (Nat.pow_le_pow_right (by omega) (by omega)))]
/-- One integer more behind a row. -/
theorem push_at' {gi hi : Nat → Nat → Int} {n : Nat} {g : Nat → Int} {v : Int} (h : ∀ j, j < n → gi j 0 = g j) (hv : hi 0 0 = v) (hg : v = g n) : ∀ j, j < n + 1 → appF n (fun i => gi (0 + i)) hi j 0 = g j := by
  intro j hj
  by_cases h1 : j < n
  · rw [appF_lt h1]
    show gi (0 + j) 0 = _
    rw [Nat.zero_add]; exact h j h1
  · obtain rfl : j = n := by omega
    rw [appF_ge (Nat.le_refl _), Nat.sub_self, hv, hg]
theorem nl600 {n : Nat} (h : (decN n).length ≤ 600) : nl 1000000000000000000 n ≤ 40 := by
  by_cases h0 : n = 0
  · subst h0; exact Nat.zero_le _
  · have := len18 h0; omega
theorem nl_sum {x y : Int} (hx : nl 1000000000000000000 x.natAbs ≤ 40) (hy : nl 1000000000000000000 y.natAbs ≤ 40) : nl 1000000000000000000 (x + y).natAbs ≤ 41 := by
  have h1 := (nl_le (b := 1000000000000000000) (by omega)).1 hx
  have h2 := (nl_le (b := 1000000000000000000) (by omega)).1 hy
  refine (nl_le (by omega)).2 ?_
  rw [show (1000000000000000000 : Nat) ^ 41 = 1000000000000000000 ^ 40 * 1000000000000000000 by rw [← Nat.pow_succ]]
  generalize (1000000000000000000 : Nat) ^ 40 = p at *
  omega
theorem read_pure (z : Int) (hz : (decN z.natAbs).length ≤ 600) : Pure Tryz.prog 94 [.str (decZ z)] (fun o => o = .ret (numV (decide (z < 0)) z.natAbs)) := by
  refine pure_of Tryz.func94 rfl 300 ?_
  obtain ⟨n, hn⟩ : ∃ n, n = z.natAbs := ⟨_, rfl⟩
  obtain ⟨L, hL⟩ : ∃ L, L = (decN n).length := ⟨_, rfl⟩
  have hL0 : 0 < L := by rw [hL]; exact List.length_pos_iff.2 (decN_ne _)
  have hnL : n < 10 ^ L := by
    have := (decD_valD (decN_isD n)).2
    rw [valD_decN] at this; rw [hL]; exact this
  have hnd : decN n = decD (n / 10 ^ (18 * 0)) (L - 18 * 0) := by rw [decN_eq_decD, ← hL]; simp
  rw [← hn, ← hL] at hz
  conv => whnf
  refine callF1 (tpre_z z) rfl rfl ?_
  conv => whnf
  rw [← hn, hnd]
  refine loop_inv Tryz.eok 280 (fun s : Gw => 18 * s.1 < L ∧ ∀ j, j < s.1 → s.2.1 j 0 = (dg 1000000000000000000 n j : Nat)) (fun s => L - s.1)
    (fun s => slots [(0, .str (decZ z)), (2, .ptr 0 0 0), (3, .str (decD (n / 10 ^ (18 * s.1)) (L - 18 * s.1))), (4, .sl 1 1 0 s.1 s.1)] 0 40)
    (fun s => [.fix 106 [.bool false, .nilSl], .arr 133 [.int .u64] s.2.1 s.2.2.1 s.2.2.2]) ⟨0, fun _ _ => 0, fun _ _ => false, fun _ _ => []⟩ [1000000] ⟨by show 18 * 0 < L; omega, fun j hj => absurd hj (Nat.not_lt_zero j)⟩ ?_ rfl ?_
  · repeat' constructor
  rintro ⟨k, gi, gb, gs⟩ ⟨hk, hg⟩
  have hk : 18 * k < L := hk
  have hg : ∀ j, j < k → gi j 0 = (dg 1000000000000000000 n j : Nat) := hg
  have hlen : (decD (n / 10 ^ (18 * k)) (L - 18 * k)).length = L - 18 * k := decD_length _ _
  have hfr : (if IntKind.i64.wrap (((decD (n / 10 ^ (18 * k)) (L - 18 * k)).length : Int) - 18) < 0 then 0 else IntKind.i64.wrap (((decD (n / 10 ^ (18 * k)) (L - 18 * k)).length : Int) - 18)) = ((L - 18 * k - 18 : Nat) : Int) := by
    rw [hlen, w64_in (by omega)]; split <;> omega
  obtain ⟨m, hm⟩ : ∃ m, m = min 18 (L - 18 * k) := ⟨_, rfl⟩
  have hm0 : 0 < m ∧ m ≤ 18 ∧ m ≤ L - 18 * k ∧ L - 18 * k - 18 = L - 18 * k - m := by omega
  have hpd := read_dg (n := n) (L := L) (k := k) hnL hm
  conv => whnf
  refine branchT ?_ ?_
  · show (decide (0 ≤ (if IntKind.i64.wrap (((decD (n / 10 ^ (18 * k)) (L - 18 * k)).length : Int) - 18) < 0 then 0 else IntKind.i64.wrap (((decD (n / 10 ^ (18 * k)) (L - 18 * k)).length : Int) - 18))) && (decide ((if IntKind.i64.wrap (((decD (n / 10 ^ (18 * k)) (L - 18 * k)).length : Int) - 18) < 0 then 0 else IntKind.i64.wrap (((decD (n / 10 ^ (18 * k)) (L - 18 * k)).length : Int) - 18)) ≤ ((decD (n / 10 ^ (18 * k)) (L - 18 * k)).length : Int)) && decide (((decD (n / 10 ^ (18 * k)) (L - 18 * k)).length : Int) ≤ ((decD (n / 10 ^ (18 * k)) (L - 18 * k)).length : Int)))) = true
    rw [hfr, hlen]; simp <;> omega
  conv => whnf
  refine callF1 (parse_pure (decD (n / 10 ^ (18 * k)) m) (fun hc => by have := congrArg List.length hc; rw [decD_length] at this; simp at this; omega) (by rw [decD_length]; omega) (decD_isD _ _)) ?_ rfl ?_
  · show [V.str (List.drop (Int.toNat (if IntKind.i64.wrap (((decD (n / 10 ^ (18 * k)) (L - 18 * k)).length : Int) - 18) < 0 then 0 else IntKind.i64.wrap (((decD (n / 10 ^ (18 * k)) (L - 18 * k)).length : Int) - 18))) (List.take (Int.toNat ((decD (n / 10 ^ (18 * k)) (L - 18 * k)).length : Int)) (decD (n / 10 ^ (18 * k)) (L - 18 * k)))), i64 10, i64 64] = _
    rw [hfr, Int.toNat_natCast, Int.toNat_natCast, List.take_length, hm0.2.2.2, decD_drop _ hm0.2.2.1]
  conv => whnf
  refine branchT (fits_ok (Nat.le_refl 8) (by show k + 1 ≤ _; omega)) ?_
  conv => whnf
  refine branchT ?_ ?_
  · show (decide ((0 : Int) ≤ 0) && (decide (0 ≤ (if IntKind.i64.wrap (((decD (n / 10 ^ (18 * k)) (L - 18 * k)).length : Int) - 18) < 0 then 0 else IntKind.i64.wrap (((decD (n / 10 ^ (18 * k)) (L - 18 * k)).length : Int) - 18))) && decide ((if IntKind.i64.wrap (((decD (n / 10 ^ (18 * k)) (L - 18 * k)).length : Int) - 18) < 0 then 0 else IntKind.i64.wrap (((decD (n / 10 ^ (18 * k)) (L - 18 * k)).length : Int) - 18)) ≤ ((decD (n / 10 ^ (18 * k)) (L - 18 * k)).length : Int)))) = true
    rw [hfr, hlen]; simp <;> omega
  conv => whnf
  refine branchI (fun h1 => ?_) (fun h1 => ?_)
  · have h1 : (List.drop 0 (List.take (Int.toNat (if IntKind.i64.wrap (((decD (n / 10 ^ (18 * k)) (L - 18 * k)).length : Int) - 18) < 0 then 0 else IntKind.i64.wrap (((decD (n / 10 ^ (18 * k)) (L - 18 * k)).length : Int) - 18))) (decD (n / 10 ^ (18 * k)) (L - 18 * k))) == []) = true := h1
    rw [hfr, Int.toNat_natCast, List.drop_zero] at h1
    have h1' : L - 18 * k - 18 = 0 := by
      have := congrArg List.length (eq_of_beq h1)
      rw [List.length_take, hlen] at this
      simp at this; omega
    conv => whnf
    refine branchT (by simp [decZ_ne]) ?_
    conv => whnf
    refine branchT (by simp; exact List.length_pos_iff.2 (decZ_ne z)) ?_
    conv => whnf
    have hlt : n < 1000000000000000000 ^ (k + 1) := by
      rw [pow18]; exact Nat.lt_of_lt_of_le hnL (Nat.pow_le_pow_right (by omega) (by omega))
    refine ⟨_, _, callK ((trim_mass (n := n) (k := k + 1) rfl hlt (by omega) rfl).args (.cons (.ro ?h) .nil)) rfl, ?_⟩
    case h =>
      intro j hj
      refine Eq.trans (congrArg (fun j' => [V.int .u64 (appF k (fun i => gi (0 + i)) _ j' 0)]) (Nat.zero_add j)) (congrArg (fun x => [V.int .u64 x]) (push_at' hg (v := ((valD (decD (n / 10 ^ (18 * k)) m) : Nat) : Int)) rfl (by rw [valD_decD, hpd]) j hj))
    conv => whnf
    refine retV ?_
    show V.agg [.bool (byteAt (decZ z) 0 == 45), massV n] = _
    rw [sgn_byte, hn]
  · have h1 : (List.drop 0 (List.take (Int.toNat (if IntKind.i64.wrap (((decD (n / 10 ^ (18 * k)) (L - 18 * k)).length : Int) - 18) < 0 then 0 else IntKind.i64.wrap (((decD (n / 10 ^ (18 * k)) (L - 18 * k)).length : Int) - 18))) (decD (n / 10 ^ (18 * k)) (L - 18 * k))) == []) = false := h1
    rw [hfr, Int.toNat_natCast, List.drop_zero] at h1
    have h1' : 18 ≤ L - 18 * k ∧ 18 * (k + 1) < L := by
      have : L - 18 * k - 18 ≠ 0 := fun hc => by rw [hc] at h1; simp at h1
      omega
    conv => whnf
    refine ⟨rfl, ⟨k + 1, ?gi, ?gb, ?gs⟩, [3], ?inv, ?mu, rfl, ?ls⟩
    case ls =>
      repeat' constructor
      all_goals first | exact rfl | (show List.drop 0 (List.take (Int.toNat (if IntKind.i64.wrap (((decD (n / 10 ^ (18 * k)) (L - 18 * k)).length : Int) - 18) < 0 then 0 else IntKind.i64.wrap (((decD (n / 10 ^ (18 * k)) (L - 18 * k)).length : Int) - 18))) (decD (n / 10 ^ (18 * k)) (L - 18 * k))) = decD (n / 10 ^ (18 * (k + 1))) (L - 18 * (k + 1)); rw [hfr, Int.toNat_natCast, List.drop_zero, read_take _ _ _ h1'.1])
    case mu => show L - (k + 1) < L - k; omega
    case inv =>
      refine ⟨h1'.2, ?_⟩
      exact push_at' hg (v := ((valD (decD (n / 10 ^ (18 * k)) m) : Nat) : Int)) rfl (by rw [valD_decD, hpd])
theorem toldz_pure (z : Int) (hn : nl 1000000000000000000 z.natAbs < 100000000) : Pure Tryz.prog 66 [numZ z] (fun o => o = .ret (toldS z)) := by
  have := told_pure (decide (z < 0)) z.natAbs (by simp; omega) hn
  rwa [zsign] at this
theorem sumz_pure (x y : Int) (hx : nl 1000000000000000000 x.natAbs < 1000000000) (hy : nl 1000000000000000000 y.natAbs < 1000000000) :
    Pure Tryz.prog 95 [numZ x, numZ y] (fun o => o = .ret (numZ (x + y))) := by
  have := sum_pure (decide (x < 0)) (decide (y < 0)) x.natAbs y.natAbs (by simp; omega) (by simp; omega) hx hy
  have e : ∀ z : Int, valB (decide (z < 0)) z.natAbs = z := fun z => zsign z
  rwa [e, e] at this
theorem both_add (x y : Int) (hx : (decN x.natAbs).length ≤ 600) (hy : (decN y.natAbs).length ≤ 600) :
    Pure Tryz.prog 67 [.str (decZ x), .str (decZ y), .agg [.fn (.func 95) []]] (fun o => o = .ret (toldS (x + y))) := by
  refine pure_of Tryz.func67 rfl 300 ?_
  have lx := nl600 hx
  have ly := nl600 hy
  have ls := nl_sum lx ly
  conv => whnf
  refine callF1 (check_ok x hx) rfl rfl ?_
  conv => whnf
  refine callF1 (check_ok y hy) rfl rfl ?_
  conv => whnf
  refine ⟨_, _, callD (read_pure x hx) rfl (.inr rfl), ?_⟩
  conv => whnf
  refine ⟨_, _, callD (read_pure y hy) rfl (.inr rfl), ?_⟩
  conv => whnf
  refine callP1 (sumz_pure x y (by omega) (by omega)) rfl ?_
  conv => whnf
  have ht := toldz_pure (x + y) (by omega)
  by_cases h6 : 600 < (decN (x + y).natAbs).length
  · rw [toldS, if_pos h6] at ht ⊢
    refine callF1 ht rfl rfl ?_
    conv => whnf
    rfl
  · rw [toldS, if_neg h6] at ht ⊢
    refine callF1 ht rfl rfl ?_
    conv => whnf
    rfl
theorem add_pure (x y : Int) (hx : (decN x.natAbs).length ≤ 600) (hy : (decN y.natAbs).length ≤ 600) :
    Pure Tryz.prog 41 [.str (decZ x), .str (decZ y)] (fun o => o = .ret (toldS (x + y))) := by
  refine pure_of Tryz.func41 rfl 300 ?_
  conv => whnf
  have ht := both_add x y hx hy
  by_cases h6 : 600 < (decN (x + y).natAbs).length
  · rw [toldS, if_pos h6] at ht ⊢
    refine callF1 ht rfl rfl ?_
    conv => whnf
    rfl
  · rw [toldS, if_neg h6] at ht ⊢
    refine callF1 ht rfl rfl ?_
    conv => whnf
    rfl
end Go.Proofs.YtkhbmendaapojaaGreatDoor
/- Volume6: the sum of determinants, told as a whole number. -/
namespace Go.Proofs.YtkhbmendaapojaaGreatDoor
open Go Go.Vx Go.Num
set_option maxRecDepth 100000
attribute [local irreducible] CallV LoopV CodeV
def det9 (a0 a1 a2 b0 b1 b2 c0 c1 c2 : Int) : Int := a0 * (b1 * c2 - b2 * c1) + a1 * (b2 * c0 - b0 * c2) + a2 * (b0 * c1 - b1 * c0)
def detZ (P F : Nat → Nat → Int) (k : Nat) : Int :=
  det9 (P (F k 0).toNat 0) (P (F k 0).toNat 1) (P (F k 0).toNat 2) (P (F k 1).toNat 0) (P (F k 1).toNat 1) (P (F k 1).toNat 2) (P (F k 2).toNat 0) (P (F k 2).toNat 1) (P (F k 2).toNat 2)
def volZ (P F : Nat → Nat → Int) : Nat → Int
  | 0 => 0
  | n + 1 => volZ P F n + detZ P F n
theorem mul_bd {a b : Int} {A B : Nat} (ha : a.natAbs ≤ A) (hb : b.natAbs ≤ B) : (a * b).natAbs ≤ A * B := by
  rw [Int.natAbs_mul]; exact Nat.mul_le_mul ha hb
theorem far_bd {a : Int} (h : farB a = false) : a.natAbs ≤ 200000 := by
  unfold farB at h; simp at h; omega
theorem far3_bd {a b c : Int} (h : far3 a b c = false) : a.natAbs ≤ 200000 ∧ b.natAbs ≤ 200000 ∧ c.natAbs ≤ 200000 := by
  unfold far3 at h
  simp only [Bool.or_eq_false_iff] at h
  exact ⟨far_bd h.1.1, far_bd h.1.2, far_bd h.2⟩
theorem cross_ok {a b c d : Int} (ha : a.natAbs ≤ 200000) (hb : b.natAbs ≤ 200000) (hc : c.natAbs ≤ 200000) (hd : d.natAbs ≤ 200000) : crossC a b c d = a * b - c * d ∧ (crossC a b c d).natAbs ≤ 80000000000 := by
  have h1 := mul_bd ha hb
  have h2 := mul_bd hc hd
  have e : crossC a b c d = a * b - c * d := by
    unfold crossC
    rw [w64, w64, w64, w64_in (x := a * b) (by omega), w64_in (x := c * d) (by omega), w64_in (by omega)]
  rw [e]
  exact ⟨rfl, by omega⟩
theorem det_ok {a0 a1 a2 b0 b1 b2 c0 c1 c2 : Int} (ha : a0.natAbs ≤ 200000 ∧ a1.natAbs ≤ 200000 ∧ a2.natAbs ≤ 200000) (hb : b0.natAbs ≤ 200000 ∧ b1.natAbs ≤ 200000 ∧ b2.natAbs ≤ 200000) (hc : c0.natAbs ≤ 200000 ∧ c1.natAbs ≤ 200000 ∧ c2.natAbs ≤ 200000) :
    dotC a0 a1 a2 (crossC b1 c2 b2 c1) (crossC b2 c0 b0 c2) (crossC b0 c1 b1 c0) = det9 a0 a1 a2 b0 b1 b2 c0 c1 c2 ∧ (det9 a0 a1 a2 b0 b1 b2 c0 c1 c2).natAbs ≤ 48000000000000000 := by
  obtain ⟨e0, h0⟩ := cross_ok hb.2.1 hc.2.2 hb.2.2 hc.2.1
  obtain ⟨e1, h1⟩ := cross_ok hb.2.2 hc.1 hb.1 hc.2.2
  obtain ⟨e2, h2⟩ := cross_ok hb.1 hc.2.1 hb.2.1 hc.1
  have m0 := mul_bd ha.1 h0
  have m1 := mul_bd ha.2.1 h1
  have m2 := mul_bd ha.2.2 h2
  have e : dotC a0 a1 a2 (crossC b1 c2 b2 c1) (crossC b2 c0 b0 c2) (crossC b0 c1 b1 c0) = a0 * crossC b1 c2 b2 c1 + a1 * crossC b2 c0 b0 c2 + a2 * crossC b0 c1 b1 c0 := by
    unfold dotC
    simp only [w64]
    rw [w64_in (x := a0 * _) (by omega), w64_in (x := a1 * _) (by omega), w64_in (x := a2 * _) (by omega), w64_in (x := _ + a1 * _) (by omega), w64_in (by omega)]
  have e' : det9 a0 a1 a2 b0 b1 b2 c0 c1 c2 = a0 * crossC b1 c2 b2 c1 + a1 * crossC b2 c0 b0 c2 + a2 * crossC b0 c1 b1 c0 := by rw [det9, e0, e1, e2]
  rw [e, e']
  exact ⟨rfl, by omega⟩
noncomputable def volS (np : Nat) (P : Nat → Nat → Int) (nf : Nat) (F : Nat → Nat → Int) : V :=
  if 0 < (flawS np P nf F).1 then .tup [.str [], i64 350] else .tup [.str (decZ (volZ P F nf)), i64 0]
theorem digs {z : Int} (h : z.natAbs < 10 ^ 30) : (decN z.natAbs).length ≤ 600 := Nat.le_trans (decN_len_le (by omega) h) (by omega)
theorem addz_pure (x y : Int) (hx : x.natAbs < 10 ^ 29) (hy : y.natAbs < 10 ^ 29) : Pure Tryz.prog 41 [.str (decZ x), .str (decZ y)] (fun o => o = .ret (.tup [.str (decZ (x + y)), i64 0])) := by
  have := add_pure x y (digs (by omega)) (digs (by omega))
  have h2 := digs (z := x + y) (by omega)
  rwa [toldS, if_neg (by omega)] at this
theorem vol_pure (np : Nat) (P : Nat → Nat → Int) (nf : Nat) (F : Nat → Nat → Int) :
    Pure Tryz.prog 11 [meshV np P nf F] (fun o => o = .ret (volS np P nf F)) := by
  refine pure_of Tryz.func11 rfl 300 ?_
  conv => whnf
  refine callS_frame (flaw_call np P nf F) [1] (by repeat' constructor) rfl rfl rfl rfl ?_
  rintro _ _ ⟨rfl, ⟨h1, rfl⟩ | ⟨h0, rfl⟩⟩
  · refine ⟨rfl, rfl, rfl, rfl, ?_⟩
    conv => whnf
    refine branchT (decide_eq_true h1) ?_
    conv => whnf
    rw [volS, if_pos h1]
    rfl
  · have hf : ¬ 0 < (flawS np P nf F).1 := by omega
    refine ⟨rfl, rfl, rfl, rfl, ?_⟩
    conv => whnf
    refine branchF (decide_eq_false hf) ?_
    obtain ⟨h1, h2⟩ := flaw_ok hf
    obtain ⟨⟨np1, np2⟩, ⟨nf1, nf2⟩, hfar, hbad, -⟩ := msingle_ok h1
    conv => whnf
    refine callF1 (of_pure 0 (by omega)) rfl rfl ?_
    conv => whnf
    refine loop_inv Tryz.eok 280 (fun s : Nat × Int × Int => s.1 ≤ nf ∧ s.2.1 + s.2.2 = volZ P F s.1 ∧ s.2.2.natAbs ≤ (s.1 % 100) * 48000000000000000 ∧ s.2.1.natAbs ≤ (s.1 - s.1 % 100) * 48000000000000000) (fun s => nf - s.1)
      (fun s => slots [(4, .ptr 1 0 0), (7, .ptr 3 0 0), (8, .ptr 4 0 0), (9, .fn (.func 40) [.ptr 3 0 0, .ptr 4 0 0]), (33, rows3 nf F), (34, i64 nf), (35, i64 s.1)] 0 67)
      (fun s => [.dead, .fix 74 [rows3 np P, rows3 nf F, .any], .dead, .fix 35 [.str (decZ s.2.1)], .fix 3 [i64 s.2.2]])
      (0, 0, 0) [] ⟨Nat.zero_le _, rfl, Nat.le_refl _, Nat.le_refl _⟩ ?_ rfl ?_
    · repeat' constructor
    rintro ⟨k, S, p⟩ ⟨hk, hs, hp, hS⟩
    have hk : k ≤ nf := hk
    have hs : S + p = volZ P F k := hs
    have hp : p.natAbs ≤ (k % 100) * 48000000000000000 := hp
    have hS : S.natAbs ≤ (k - k % 100) * 48000000000000000 := hS
    conv => whnf
    refine branchI (fun h3 => ?_) (fun h3 => ?_)
    · have h3 : decide ((k : Int) < (nf : Int)) = true := h3
      have h3' := of_decide_eq_true h3
      obtain ⟨b0, b1, b2, -⟩ := badF_false (hbad k (by omega))
      obtain ⟨dz, db⟩ := det_ok (far3_bd (hfar (F k 0).toNat (by omega))) (far3_bd (hfar (F k 1).toNat (by omega))) (far3_bd (hfar (F k 2).toNat (by omega)))
      conv => whnf
      refine branchT (guardI ⟨by show (0 : Int) ≤ (k : Int); omega, by show (k : Int) < (nf : Int); omega⟩) ?_
      conv => whnf
      refine branchT (guardI ⟨by show 0 ≤ F k 0; omega, by show F k 0 < (np : Int); omega⟩) ?_
      conv => whnf
      refine branchT (guardI ⟨by show 0 ≤ F k 1; omega, by show F k 1 < (np : Int); omega⟩) ?_
      conv => whnf
      refine branchT (guardI ⟨by show 0 ≤ F k 2; omega, by show F k 2 < (np : Int); omega⟩) ?_
      conv => whnf
      refine ⟨_, _, callD (cross_pure _ _ _ _ _ _) rfl (.inl rfl), ?_⟩
      conv => whnf
      refine ⟨_, _, callD (dot_pure _ _ _ _ _ _) rfl (.inl rfl), ?_⟩
      conv => whnf
      have hq : IntKind.i64.wrap (p + dotC (P (F k 0).toNat 0) (P (F k 0).toNat 1) (P (F k 0).toNat 2) (crossC (P (F k 1).toNat 1) (P (F k 2).toNat 2) (P (F k 1).toNat 2) (P (F k 2).toNat 1)) (crossC (P (F k 1).toNat 2) (P (F k 2).toNat 0) (P (F k 1).toNat 0) (P (F k 2).toNat 2)) (crossC (P (F k 1).toNat 0) (P (F k 2).toNat 1) (P (F k 1).toNat 1) (P (F k 2).toNat 0))) = p + detZ P F k := by
        rw [dz]; exact w64_in (by omega)
      have hdb : (detZ P F k).natAbs ≤ 48000000000000000 := db
      have hv : volZ P F (k + 1) = S + (p + detZ P F k) := by rw [volZ, ← hs]; omega
      refine branchI (fun h4 => ?_) (fun h4 => ?_)
      · have h4 : (((k : Int)).tmod 100 == 99) = true := h4
        have h4' : k % 100 = 99 := by have := eq_of_beq h4; rw [Int.tmod_eq_emod_of_nonneg (by omega)] at this; omega
        conv => whnf
        refine ⟨_, _, callD (of_pure (p + detZ P F k) ⟨by omega, by omega⟩) (congrArg (fun z => [V.int .i64 z]) hq) (.inl rfl), ?_⟩
        conv => whnf
        refine callF1 (addz_pure S (p + detZ P F k) (by omega) (by omega)) rfl rfl ?_
        conv => whnf
        refine ⟨rfl, ⟨k + 1, S + (p + detZ P F k), 0⟩, [], ⟨by show k + 1 ≤ nf; omega, by show S + (p + detZ P F k) + 0 = volZ P F (k + 1); omega, by show (0 : Int).natAbs ≤ ((k + 1) % 100) * 48000000000000000; omega, by show (S + (p + detZ P F k)).natAbs ≤ (k + 1 - (k + 1) % 100) * 48000000000000000; omega⟩, by show nf - (k + 1) < nf - k; omega, rfl, ?_⟩
        repeat' constructor
        all_goals first | exact rfl | exact w64_nat (by omega) | skip
      · have h4 : (((k : Int)).tmod 100 == 99) = false := h4
        have h4' : k % 100 ≠ 99 := fun hc => by
          have : ((k : Int)).tmod 100 = 99 := by rw [Int.tmod_eq_emod_of_nonneg (by omega)]; omega
          rw [this] at h4; cases h4
        have hb1 : (p + detZ P F k).natAbs ≤ ((k + 1) % 100) * 48000000000000000 := by omega
        have hb2 : S.natAbs ≤ (k + 1 - (k + 1) % 100) * 48000000000000000 := by rw [show k + 1 - (k + 1) % 100 = k - k % 100 by omega]; exact hS
        conv => whnf
        refine ⟨rfl, ⟨k + 1, S, p + detZ P F k⟩, [], ⟨by show k + 1 ≤ nf; omega, by show S + (p + detZ P F k) = volZ P F (k + 1); omega, hb1, hb2⟩, by show nf - (k + 1) < nf - k; omega, rfl, ?_⟩
        repeat' constructor
        all_goals first | exact hq | exact w64_nat (by omega) | skip
    · have h3 : decide ((k : Int) < (nf : Int)) = false := h3
      have h3' := of_decide_eq_false h3
      obtain rfl : k = nf := by omega
      conv => whnf
      refine ⟨_, _, callD (of_pure p ⟨by omega, by omega⟩) rfl (.inl rfl), ?_⟩
      conv => whnf
      refine callF1 (addz_pure S p (by omega) (by omega)) rfl rfl ?_
      conv => whnf
      rw [volS, if_neg hf, ← hs]
      rfl
end Go.Proofs.YtkhbmendaapojaaGreatDoor
/- A mesh's flaw asked (flawed), the determinant of three differences (det). -/
namespace Go.Proofs.YtkhbmendaapojaaGreatDoor
open Go Go.Vx Go.Num
set_option maxRecDepth 100000
attribute [local irreducible] CallV LoopV CodeV
theorem flawed_pure (np : Nat) (P : Nat → Nat → Int) (nf : Nat) (F : Nat → Nat → Int) (k a : Int) :
    Pure Tryz.prog 28 [meshV np P nf F, i64 k, i64 a] (fun o => o = .ret (.bool (decide (flawS np P nf F = (k, a))))) := by
  refine pure_of0 Tryz.func28 rfl 300 ?_
  conv => whnf
  refine callF1 (mflaw_pure np P nf F) rfl rfl ?_
  conv => whnf
  have hv := vol_pure np P nf F
  by_cases hf : 0 < (flawS np P nf F).1
  · rw [volS, if_pos hf] at hv
    refine callF1 hv rfl rfl ?_
    conv => whnf
    refine branchI (fun h1 => ?_) (fun h1 => ?_)
    · have h1 : ((flawS np P nf F).1 == k) = true := h1
      have h1' := eq_of_beq h1
      conv => whnf
      refine branchI (fun h2 => ?_) (fun h2 => ?_)
      · have h2' : ((flawS np P nf F).2 == a) = true := h2
        have h2' := eq_of_beq h2'
        conv => whnf
        refine retB ?_
        rw [show flawS np P nf F = (k, a) from Prod.ext h1' h2', decide_eq_true rfl]
        rw [h1'] at hf
        show (((350 : Int) == 350) == decide (0 < k)) = true
        rw [decide_eq_true hf]; rfl
      · have h2' : ((flawS np P nf F).2 == a) = false := h2
        conv => whnf
        refine retB ?_
        rw [decide_eq_false]
        intro hc; rw [hc] at h2'; simp at h2'
    · have h1 : ((flawS np P nf F).1 == k) = false := h1
      conv => whnf
      refine retB ?_
      rw [decide_eq_false]
      intro hc; rw [hc] at h1; simp at h1
  · rw [volS, if_neg hf] at hv
    refine callF1 hv rfl rfl ?_
    conv => whnf
    refine branchI (fun h1 => ?_) (fun h1 => ?_)
    · have h1 : ((flawS np P nf F).1 == k) = true := h1
      have h1' := eq_of_beq h1
      conv => whnf
      refine branchI (fun h2 => ?_) (fun h2 => ?_)
      · have h2' : ((flawS np P nf F).2 == a) = true := h2
        have h2' := eq_of_beq h2'
        conv => whnf
        refine retB ?_
        rw [show flawS np P nf F = (k, a) from Prod.ext h1' h2', decide_eq_true rfl]
        rw [h1'] at hf
        show (((0 : Int) == 350) == decide (0 < k)) = true
        rw [decide_eq_false hf]; rfl
      · have h2' : ((flawS np P nf F).2 == a) = false := h2
        conv => whnf
        refine retB ?_
        rw [decide_eq_false]
        intro hc; rw [hc] at h2'; simp at h2'
    · have h1 : ((flawS np P nf F).1 == k) = false := h1
      conv => whnf
      refine retB ?_
      rw [decide_eq_false]
      intro hc; rw [hc] at h1; simp at h1
theorem det_pure (a0 a1 a2 b0 b1 b2 c0 c1 c2 : Int) : Pure Tryz.prog 29 [pt a0 a1 a2, pt b0 b1 b2, pt c0 c1 c2] (fun o => o = .ret (i64 (dotC a0 a1 a2 (crossC b1 c2 b2 c1) (crossC b2 c0 b0 c2) (crossC b0 c1 b1 c0)))) := by
  refine pure_of0 Tryz.func29 rfl 300 ?_
  conv => whnf
  refine callF1 (lcross_pure b0 b1 b2 c0 c1 c2) rfl rfl ?_
  conv => whnf
  rfl
end Go.Proofs.YtkhbmendaapojaaGreatDoor
/- The examples' meshes: their flaws. -/
namespace Go.Proofs.YtkhbmendaapojaaGreatDoor
open Go Go.Vx
set_option maxRecDepth 100000
def turF (i c : Nat) : Int := match i, c with
  | 0, 0 => 0 | 0, 1 => 2 | 0, 2 => 1
  | 1, 0 => 0 | 1, 1 => 1 | 1, 2 => 3
  | 2, 0 => 0 | 2, 1 => 3 | 2, 2 => 2
  | 3, 0 => 1 | 3, 1 => 3 | 3, 2 => 2
  | _, _ => 0
def twiF (i c : Nat) : Int := match i, c with
  | 0, 0 => 0 | 0, 1 => 2 | 0, 2 => 1
  | 1, 0 => 0 | 1, 1 => 1 | 1, 2 => 3
  | 2, 0 => 3 | 2, 1 => 3 | 2, 2 => 2
  | 3, 0 => 1 | 3, 1 => 2 | 3, 2 => 3
  | _, _ => 0
def flaP (i c : Nat) : Int := match i, c with
  | 1, 0 => 1000
  | 2, 1 => 1000
  | 3, 1 => 500
  | _, _ => 0
theorem less_flaw : flawS 4 teP 3 teF = (1, 1) := by
  have h : singleS 4 teP 3 teF = (1, 1) := by decide +kernel
  rw [flawS, h]; rfl
theorem twice_flaw : flawS 4 teP 4 twiF = (3, 2) := by
  have h : singleS 4 teP 4 twiF = (3, 2) := by decide +kernel
  rw [flawS, h]; rfl
theorem flat_flaw : flawS 4 flaP 4 teF = (4, 2) := by
  have h : singleS 4 flaP 4 teF = (4, 2) := by decide +kernel
  rw [flawS, h]; rfl
theorem turned_flaw : flawS 4 teP 4 turF = (5, 3) := by
  have h : singleS 4 teP 4 turF = (0, 0) := by decide +kernel
  have h2 : first (fun i => dupF turF i (mapN turF i)) 0 4 = some 3 := by decide +kernel
  rw [flawS, h, h2]; rfl
open Classical in
theorem te_reach : ∀ i, i < 4 → reachN teF 4 i = true := by
  have h0 : Reach (nb teF (mapN teF 4)) 0 := .zero
  intro i hi
  unfold reachN
  apply decide_eq_true
  have hi : i = 0 ∨ i = 1 ∨ i = 2 ∨ i = 3 := by omega
  rcases hi with rfl | rfl | rfl | rfl
  · exact h0
  · exact Reach.step 0 1 h0 (by decide +kernel)
  · exact Reach.step 0 2 h0 (by decide +kernel)
  · exact Reach.step 0 3 h0 (by decide +kernel)
/-- Four points with the example's faces: only a flat face is a flaw. -/
theorem te_flaw (P : Nat → Nat → Int) (hP : ∀ i, i < 4 → far3 (P i 0) (P i 1) (P i 2) = false) :
    flawS 4 P 4 teF = match first (fun i => flatF P (teF i 0) (teF i 1) (teF i 2)) 0 4 with
      | some i => (4, (i : Int))
      | none => (0, 0) := by
  have h1 : first (fun i => far3 (P i 0) (P i 1) (P i 2)) 0 4 = none := by
    simp only [first, hP 0 (by omega), hP 1 (by omega), hP 2 (by omega), hP 3 (by omega)]
    rfl
  have h2 : first (fun i => badF 4 (teF i 0) (teF i 1) (teF i 2)) 0 4 = none := by decide +kernel
  have hs : singleS 4 P 4 teF = match first (fun i => flatF P (teF i 0) (teF i 1) (teF i 2)) 0 4 with
      | some i => (4, (i : Int))
      | none => (0, 0) := by
    rw [singleS, if_neg (by decide), if_neg (by decide), h1, h2]
    rfl
  have h3 : first (fun i => dupF teF i (mapN teF i)) 0 4 = none := by decide +kernel
  have h4 : first (fun i => openF teF (mapN teF 4) i) 0 4 = none := by decide +kernel
  have h5 : first (fun i => false == usedN teF 4 i 0) 0 4 = none := by decide +kernel
  have h6 : first (fun i => false == reachN teF 4 i) 0 4 = none := by
    simp only [first, te_reach 0 (by omega), te_reach 1 (by omega), te_reach 2 (by omega), te_reach 3 (by omega)]
    rfl
  rw [flawS, hs]
  cases first (fun i => flatF P (teF i 0) (teF i 1) (teF i 2)) 0 4 with
  | some i => rfl
  | none => rw [if_neg (by decide), h3, h4, h5, h6]
theorem tetra_flaw : flawS 4 teP 4 teF = (0, 0) := by
  rw [te_flaw teP (by decide +kernel), show first (fun i => flatF teP (teF i 0) (teF i 1) (teF i 2)) 0 4 = none by decide +kernel]
end Go.Proofs.YtkhbmendaapojaaGreatDoor
/- Moved. -/
namespace Go.Proofs.YtkhbmendaapojaaGreatDoor
open Go Go.Vx
set_option maxRecDepth 100000
attribute [local irreducible] CallV LoopV CodeV
def farV (n : Int) : Bool := decide (n < -400000) || decide (400000 < n)
def farV3 (a b c : Int) : Bool := farV a || farV b || farV c
theorem farV_pure (a : Int) : Pure Tryz.prog 52 [i64 a] (fun o => o = .ret (.bool (farV a))) := by
  refine pure_of Tryz.func52 rfl 100 ?_
  conv => whnf
  refine branchI (fun h1 => ?_) (fun h1 => ?_)
  · conv => whnf
    exact retB (by simp [farV, h1])
  · conv => whnf
    exact retB (by simp [farV, h1])
def movP (P : Nat → Nat → Int) (v0 v1 v2 : Int) (i c : Nat) : Int := match c with
  | 0 => P i 0 + v0
  | 1 => P i 1 + v1
  | _ => P i 2 + v2
def farM (P : Nat → Nat → Int) (v0 v1 v2 : Int) (i : Nat) : Bool := far3 (P i 0 + v0) (P i 1 + v1) (P i 2 + v2)
noncomputable def movedS (np : Nat) (P : Nat → Nat → Int) (nf : Nat) (F : Nat → Nat → Int) (v0 v1 v2 : Int) : V :=
  if 0 < (flawS np P nf F).1 then .tup [noMesh, i64 350] else if farV3 v0 v1 v2 then .tup [noMesh, i64 6]
  else if (first (farM P v0 v1 v2) 0 np).isSome then .tup [noMesh, i64 6] else .tup [meshV np (movP P v0 v1 v2) nf F, i64 0]
theorem farV_ok {a : Int} (h : farV a = false) : -400000 ≤ a ∧ a ≤ 400000 := by unfold farV at h; simp at h; omega
theorem farB_ok {a : Int} (h : farB a = false) : -200000 ≤ a ∧ a ≤ 200000 := by unfold farB at h; simp at h; omega
theorem far3_le {a b c : Int} (h : far3 a b c = false) : (-200000 ≤ a ∧ a ≤ 200000) ∧ (-200000 ≤ b ∧ b ≤ 200000) ∧ (-200000 ≤ c ∧ c ≤ 200000) := by
  unfold far3 at h
  simp only [Bool.or_eq_false_iff] at h
  exact ⟨farB_ok h.1.1, farB_ok h.1.2, farB_ok h.2⟩
/-- A point that is moved in its row. -/
def addAt (gi : Nat → Nat → Int) (k : Nat) (v0 v1 v2 : Int) : Nat → Nat → Int :=
  up2 (up2 (up2 gi k 0 (IntKind.i64.wrap (gi k 0 + v0))) k 1 (IntKind.i64.wrap (up2 gi k 0 (IntKind.i64.wrap (gi k 0 + v0)) k 1 + v1))) k 2
    (IntKind.i64.wrap (up2 (up2 gi k 0 (IntKind.i64.wrap (gi k 0 + v0))) k 1 (IntKind.i64.wrap (up2 gi k 0 (IntKind.i64.wrap (gi k 0 + v0)) k 1 + v1)) k 2 + v2))
theorem addAt_ne {gi : Nat → Nat → Int} {k : Nat} {v0 v1 v2 : Int} {i c : Nat} (h : i ≠ k) : addAt gi k v0 v1 v2 i c = gi i c := by simp [addAt, up2, h]
theorem addAt_at {gi : Nat → Nat → Int} {k : Nat} {v0 v1 v2 a b c : Int} (ha : gi k 0 = a) (hb : gi k 1 = b) (hc : gi k 2 = c) (fa : -200000 ≤ a ∧ a ≤ 200000) (fb : -200000 ≤ b ∧ b ≤ 200000) (fc : -200000 ≤ c ∧ c ≤ 200000)
    (n0 : -400000 ≤ v0 ∧ v0 ≤ 400000) (n1 : -400000 ≤ v1 ∧ v1 ≤ 400000) (n2 : -400000 ≤ v2 ∧ v2 ≤ 400000) :
    addAt gi k v0 v1 v2 k 0 = a + v0 ∧ addAt gi k v0 v1 v2 k 1 = b + v1 ∧ addAt gi k v0 v1 v2 k 2 = c + v2 := by
  have w0 : IntKind.i64.wrap (a + v0) = a + v0 := w64_in (by omega)
  have w1 : IntKind.i64.wrap (b + v1) = b + v1 := w64_in (by omega)
  have w2 : IntKind.i64.wrap (c + v2) = c + v2 := w64_in (by omega)
  refine ⟨?_, ?_, ?_⟩ <;> simp [addAt, up2, ha, hb, hc, w0, w1, w2]
theorem first_some {p : Nat → Bool} : ∀ {c i x : Nat}, first p i c = some x → x < i + c ∧ p x = true
  | 0, i, x, h => by cases h
  | c + 1, i, x, h => by
    rw [first] at h
    split at h
    · rename_i hp
      cases h; exact ⟨by omega, hp⟩
    · obtain ⟨h1, h2⟩ := first_some h
      exact ⟨by omega, h2⟩
theorem moved_pure (np : Nat) (P : Nat → Nat → Int) (nf : Nat) (F : Nat → Nat → Int) (v0 v1 v2 : Int) :
    Pure Tryz.prog 21 [meshV np P nf F, pt v0 v1 v2] (fun o => o = .ret (movedS np P nf F v0 v1 v2)) := by
  refine Pure.retSub (pure_of Tryz.func21 rfl 300 ?_)
  conv => whnf
  refine callF1 (mcheck_pure np P nf F) rfl rfl ?_
  by_cases hf : 0 < (flawS np P nf F).1
  · rw [checkS, if_pos hf]
    conv => whnf
    refine RetSub.eq ?_
    rw [movedS, if_pos hf]
    rfl
  · rw [checkS, if_neg hf]
    obtain ⟨h1, h2⟩ := flaw_ok hf
    obtain ⟨⟨np1, np2⟩, ⟨nf1, nf2⟩, hfar, -⟩ := msingle_ok h1
    conv => whnf
    refine loop_unroll Tryz.eok 280 5 ?_
    conv => whnf
    have far : farV3 v0 v1 v2 = true → V.tup [noMesh, i64 6] = movedS np P nf F v0 v1 v2 := fun h => by rw [movedS, if_neg hf, if_pos h]
    refine callF1 (farV_pure _) rfl rfl ?_
    conv => whnf
    refine branchI (fun h3 => ?_) (fun h3 => ?_)
    · conv => whnf
      rw [← far (by simp [farV3, show farV v0 = true from h3])]
      exact RetSub.eq rfl
    conv => whnf
    refine callF1 (farV_pure _) rfl rfl ?_
    conv => whnf
    refine branchI (fun h4 => ?_) (fun h4 => ?_)
    · conv => whnf
      rw [← far (by simp [farV3, show farV v1 = true from h4])]
      exact RetSub.eq rfl
    conv => whnf
    refine callF1 (farV_pure _) rfl rfl ?_
    conv => whnf
    refine branchI (fun h5 => ?_) (fun h5 => ?_)
    · conv => whnf
      rw [← far (by simp [farV3, show farV v2 = true from h5])]
      exact RetSub.eq rfl
    have n0 := farV_ok (show farV v0 = false from h3)
    have n1 := farV_ok (show farV v1 = false from h4)
    have n2 := farV_ok (show farV v2 = false from h5)
    have hn3 : ¬ farV3 v0 v1 v2 = true := by simp [farV3, show farV v0 = false from h3, show farV v1 = false from h4, show farV v2 = false from h5]
    conv => whnf
    refine ⟨_, _, _, _, clone_pure np P (by omega) (by omega), ?_⟩
    conv => whnf
    refine ⟨_, _, _, _, clone_pure nf F (by omega) (by omega), ?_⟩
    conv => whnf
    refine loop_inv Tryz.eok 280 (fun s : Nat × (Nat → Nat → Int) => s.1 ≤ np ∧ (∀ i, i < s.1 → farM P v0 v1 v2 i = false) ∧ ∀ i, (i < s.1 → s.2 i 0 = P i 0 + v0 ∧ s.2 i 1 = P i 1 + v1 ∧ s.2 i 2 = P i 2 + v2) ∧ (s.1 ≤ i → s.2 i 0 = P i 0 ∧ s.2 i 1 = P i 1 ∧ s.2 i 2 = P i 2)) (fun s => np - s.1)
      (fun s => slots [(2, .ptr 0 0 0), (3, .ptr 1 0 0), (4, .ptr 2 0 0), (7, .ptr 10 0 0), (30, i64 np), (31, i64 s.1)] 0 60)
      (fun s => [.fix 24 [rows3 np P, rows3 nf F], .fix 41 [i64 v0, i64 v1, i64 v2], .fix 24 [.nilSl, .nilSl], .dead, .dead, .arr 41 [.int .i64, .int .i64, .int .i64] s.2 (clB np P) (clS np P), .dead, .dead, .arr 41 [.int .i64, .int .i64, .int .i64] (clI nf F) (clB nf F) (clS nf F), .dead, .fix 24 [.sl 5 3 0 np np, .sl 8 3 0 nf nf]])
      (0, clI np P) [] ⟨Nat.zero_le _, fun i h => absurd h (Nat.not_lt_zero i), fun i => ⟨fun h => absurd h (Nat.not_lt_zero i), fun _ => ⟨rfl, rfl, rfl⟩⟩⟩ ?_ rfl ?_
    · repeat' constructor
    rintro ⟨k, gi⟩ ⟨hk, hno, hg⟩
    have hk : k ≤ np := hk
    have hno : ∀ i, i < k → farM P v0 v1 v2 i = false := hno
    have hg : ∀ i, (i < k → gi i 0 = P i 0 + v0 ∧ gi i 1 = P i 1 + v1 ∧ gi i 2 = P i 2 + v2) ∧ (k ≤ i → gi i 0 = P i 0 ∧ gi i 1 = P i 1 ∧ gi i 2 = P i 2) := hg
    conv => whnf
    refine branchI (fun h6 => ?_) (fun h6 => ?_)
    · have h6 : decide ((k : Int) < (np : Int)) = true := h6
      have h6' := of_decide_eq_true h6
      obtain ⟨g0, g1, g2⟩ := (hg k).2 (Nat.le_refl k)
      conv => whnf
      refine branchT (guardI ⟨by show (0 : Int) ≤ (k : Int); omega, by show (k : Int) < (np : Int); omega⟩) ?_
      conv => whnf
      refine loop_unroll Tryz.eok 260 5 ?_
      conv => whnf
      obtain ⟨f0, f1, f2⟩ := far3_le (hfar k (by omega))
      obtain ⟨z0, z1, z2⟩ := addAt_at (k := 0 + k) (gi := gi) (a := P k 0) (b := P k 1) (c := P k 2) (by rw [Nat.zero_add]; exact g0) (by rw [Nat.zero_add]; exact g1) (by rw [Nat.zero_add]; exact g2) f0 f1 f2 n0 n1 n2
      refine callF1 (far_pure (P k 0 + v0) (P k 1 + v1) (P k 2 + v2)) ?_ rfl ?_
      · show [pt (addAt gi (0 + k) v0 v1 v2 (0 + k) 0) (addAt gi (0 + k) v0 v1 v2 (0 + k) 1) (addAt gi (0 + k) v0 v1 v2 (0 + k) 2)] = _
        rw [z0, z1, z2]
      conv => whnf
      refine branchI (fun h7 => ?_) (fun h7 => ?_)
      · have h7 : farM P v0 v1 v2 k = true := h7
        conv => whnf
        refine RetSub.eq ?_
        rw [movedS, if_neg hf, if_neg hn3, if_pos]
        · rfl
        · cases hx : first (farM P v0 v1 v2) 0 np with
          | some i => rfl
          | none => rw [first_none hx k (Nat.zero_le _) (by omega)] at h7; cases h7
      · have h7 : farM P v0 v1 v2 k = false := h7
        conv => whnf
        refine ⟨rfl, ⟨k + 1, addAt gi (0 + k) v0 v1 v2⟩, [], ⟨by show k + 1 ≤ np; omega, fun i hi => ?_, fun i => ?_⟩, by show np - (k + 1) < np - k; omega, rfl, ?_⟩
        · have hi : i < k + 1 := hi
          by_cases hik : i = k
          · rw [hik]; exact h7
          · exact hno i (by omega)
        · show (i < k + 1 → addAt gi (0 + k) v0 v1 v2 i 0 = P i 0 + v0 ∧ addAt gi (0 + k) v0 v1 v2 i 1 = P i 1 + v1 ∧ addAt gi (0 + k) v0 v1 v2 i 2 = P i 2 + v2) ∧ (k + 1 ≤ i → addAt gi (0 + k) v0 v1 v2 i 0 = P i 0 ∧ addAt gi (0 + k) v0 v1 v2 i 1 = P i 1 ∧ addAt gi (0 + k) v0 v1 v2 i 2 = P i 2)
          rw [Nat.zero_add] at z0 z1 z2 ⊢
          by_cases hik : i = k
          · subst hik
            exact ⟨fun _ => ⟨z0, z1, z2⟩, fun h => absurd h (by omega)⟩
          · obtain ⟨q1, q2⟩ := hg i
            rw [addAt_ne hik, addAt_ne hik, addAt_ne hik]
            exact ⟨fun h => q1 (by omega), fun h => q2 (by omega)⟩
        · repeat' constructor
          all_goals first | exact rfl | exact w64_nat (by omega) | skip
    · have h6 : decide ((k : Int) < (np : Int)) = false := h6
      have h6' := of_decide_eq_false h6
      obtain rfl : k = np := by omega
      conv => whnf
      refine RetSub.of ?_
      rw [movedS, if_neg hf, if_neg hn3, if_neg]
      · refine .tup (.cons (.agg (.cons ?_ (.cons ?_ .nil))) (.cons (.refl _) .nil))
        · exact SubV.ro fun i hi => by
            obtain ⟨q1, q2, q3⟩ := (hg i).1 hi
            show [i64 (gi (0 + i) 0), i64 (gi (0 + i) 1), i64 (gi (0 + i) 2)] = [i64 (P i 0 + v0), i64 (P i 1 + v1), i64 (P i 2 + v2)]
            rw [Nat.zero_add, q1, q2, q3]
        · exact SubV.ro fun i _ => by
            show [i64 (F (0 + i) 0), i64 (F (0 + i) 1), i64 (F (0 + i) 2)] = _
            rw [Nat.zero_add]
      · intro hx
        cases hy : first (farM P v0 v1 v2) 0 k with
        | none => rw [hy] at hx; cases hx
        | some i =>
          obtain ⟨hi1, hi2⟩ := first_some hy
          rw [hno i (by omega)] at hi2; cases hi2
end Go.Proofs.YtkhbmendaapojaaGreatDoor
/- Box. -/
namespace Go.Proofs.YtkhbmendaapojaaGreatDoor
open Go Go.Vx
set_option maxRecDepth 100000
attribute [local irreducible] CallV LoopV CodeV
/-- The least and the greatest coordinate of the first n points, beginning at the first. -/
def loN (P : Nat → Nat → Int) (c : Nat) : Nat → Int
  | 0 => P 0 c
  | n + 1 => if P n c < loN P c n then P n c else loN P c n
def hiN (P : Nat → Nat → Int) (c : Nat) : Nat → Int
  | 0 => P 0 c
  | n + 1 => if hiN P c n < P n c then P n c else hiN P c n
noncomputable def boxS (np : Nat) (P : Nat → Nat → Int) (nf : Nat) (F : Nat → Nat → Int) : V :=
  if 0 < (flawS np P nf F).1 then .tup [pt 0 0 0, pt 0 0 0, i64 350] else .tup [pt (loN P 0 np) (loN P 1 np) (loN P 2 np), pt (hiN P 0 np) (hiN P 1 np) (hiN P 2 np), i64 0]
theorem box_pure (np : Nat) (P : Nat → Nat → Int) (nf : Nat) (F : Nat → Nat → Int) :
    Pure Tryz.prog 15 [meshV np P nf F] (fun o => o = .ret (boxS np P nf F)) := by
  refine pure_of Tryz.func15 rfl 300 ?_
  conv => whnf
  refine callF1 (mcheck_pure np P nf F) rfl rfl ?_
  by_cases hf : 0 < (flawS np P nf F).1
  · rw [checkS, if_pos hf]
    conv => whnf
    rw [boxS, if_pos hf]
    rfl
  · rw [checkS, if_neg hf]
    obtain ⟨h1, h2⟩ := flaw_ok hf
    obtain ⟨⟨np1, np2⟩, ⟨nf1, nf2⟩, -⟩ := msingle_ok h1
    conv => whnf
    refine branchT (guardI ⟨Int.le_refl 0, by omega⟩) ?_
    conv => whnf
    refine branchT (guardI ⟨Int.le_refl 0, by omega⟩) ?_
    conv => whnf
    refine loop_inv Tryz.eok 280 (fun k : Nat => k ≤ np) (fun k => np - k)
      (fun k => slots [(1, .ptr 0 0 0), (2, .ptr 1 0 0), (3, .ptr 2 0 0), (26, rows3 np P), (27, i64 np), (28, i64 k)] 0 55)
      (fun k => [.fix 24 [rows3 np P, rows3 nf F], .fix 41 [i64 (loN P 0 k), i64 (loN P 1 k), i64 (loN P 2 k)], .fix 41 [i64 (hiN P 0 k), i64 (hiN P 1 k), i64 (hiN P 2 k)]]) 0 [] (Nat.zero_le _) ?_ rfl ?_
    · repeat' constructor
    intro k hk
    conv => whnf
    refine branchI (fun h3 => ?_) (fun h3 => ?_)
    · have h3 : decide ((k : Int) < (np : Int)) = true := h3
      have h3' := of_decide_eq_true h3
      conv => whnf
      refine branchT (guardI ⟨by omega, by omega⟩) ?_
      conv => whnf
      refine loop_unroll Tryz.eok 280 5 ?_
      conv => whnf
      refine ⟨rfl, k + 1, [], by omega, by omega, rfl, ?_⟩
      repeat' constructor
      all_goals first | exact rfl | exact w64_nat (by omega) | skip
    · have h3 : decide ((k : Int) < (np : Int)) = false := h3
      have h3' := of_decide_eq_false h3
      obtain rfl : k = np := by omega
      conv => whnf
      rw [boxS, if_neg hf]
      rfl
end Go.Proofs.YtkhbmendaapojaaGreatDoor
/- The chapter's examples: what each call answers. -/
namespace Go.Proofs.YtkhbmendaapojaaGreatDoor
open Go Go.Vx Go.Num
set_option maxRecDepth 100000
theorem te_vol : Pure Tryz.prog 11 [meshV 4 teP 4 teF] (fun o => o = .ret (.tup [.str [49, 48, 48, 48, 48, 48, 48, 48, 48, 48], i64 0])) := by
  have h := vol_pure 4 teP 4 teF
  rwa [volS, tetra_flaw, if_neg (by decide), show decZ (volZ teP teF 4) = [49, 48, 48, 48, 48, 48, 48, 48, 48, 48] by decide +kernel] at h
theorem te_eul : Pure Tryz.prog 13 [meshV 4 teP 4 teF] (fun o => o = .ret (.tup [i64 6, i64 2, i64 0])) := by
  have h := meuler_pure 4 teP 4 teF
  rwa [eulerS, tetra_flaw, if_neg (by decide)] at h
theorem te_box : Pure Tryz.prog 15 [meshV 4 teP 4 teF] (fun o => o = .ret (.tup [pt 0 0 0, pt 1000 1000 1000, i64 0])) := by
  have h := box_pure 4 teP 4 teF
  rwa [boxS, tetra_flaw, if_neg (by decide)] at h
theorem te_turn : Pure Tryz.prog 18 [meshV 4 teP 4 teF] (fun o => o = .ret (.tup [meshV 4 teP 4 (turnF teF), i64 0])) := by
  have h := turned_pure 4 teP 4 teF
  rwa [turnedS, tetra_flaw, if_neg (by decide)] at h
open Classical in
theorem tu_reach : ∀ i, i < 4 → reachN (turnF teF) 4 i = true := by
  have h0 : Reach (nb (turnF teF) (mapN (turnF teF) 4)) 0 := .zero
  intro i hi
  unfold reachN
  apply decide_eq_true
  have hi : i = 0 ∨ i = 1 ∨ i = 2 ∨ i = 3 := by omega
  rcases hi with rfl | rfl | rfl | rfl
  · exact h0
  · exact Reach.step 0 1 h0 (by decide +kernel)
  · exact Reach.step 0 2 h0 (by decide +kernel)
  · exact Reach.step 0 3 h0 (by decide +kernel)
theorem tu_flaw : flawS 4 teP 4 (turnF teF) = (0, 0) := by
  have hs : singleS 4 teP 4 (turnF teF) = (0, 0) := by decide +kernel
  have h3 : first (fun i => dupF (turnF teF) i (mapN (turnF teF) i)) 0 4 = none := by decide +kernel
  have h4 : first (fun i => openF (turnF teF) (mapN (turnF teF) 4) i) 0 4 = none := by decide +kernel
  have h5 : first (fun i => false == usedN (turnF teF) 4 i 0) 0 4 = none := by decide +kernel
  have h6 : first (fun i => false == reachN (turnF teF) 4 i) 0 4 = none := by
    simp only [first, tu_reach 0 (by omega), tu_reach 1 (by omega), tu_reach 2 (by omega), tu_reach 3 (by omega)]
    rfl
  rw [flawS, hs, if_neg (by decide), h3, h4, h5, h6]
theorem tu_vol : Pure Tryz.prog 11 [meshV 4 teP 4 (turnF teF)] (fun o => o = .ret (.tup [.str [45, 49, 48, 48, 48, 48, 48, 48, 48, 48, 48], i64 0])) := by
  have h := vol_pure 4 teP 4 (turnF teF)
  rwa [volS, tu_flaw, if_neg (by decide), show decZ (volZ teP (turnF teF) 4) = [45, 49, 48, 48, 48, 48, 48, 48, 48, 48, 48] by decide +kernel] at h
theorem te_mov : Pure Tryz.prog 21 [meshV 4 teP 4 teF, pt 199000 0 0] (fun o => o = .ret (.tup [meshV 4 (movP teP 199000 0 0) 4 teF, i64 0])) := by
  have h := moved_pure 4 teP 4 teF 199000 0 0
  rwa [movedS, tetra_flaw, if_neg (by decide), if_neg (by decide), if_neg (by decide +kernel)] at h
theorem te_mov2 : Pure Tryz.prog 21 [meshV 4 teP 4 teF, pt 199001 0 0] (fun o => o = .ret (.tup [noMesh, i64 6])) := by
  have h := moved_pure 4 teP 4 teF 199001 0 0
  rwa [movedS, tetra_flaw, if_neg (by decide), if_neg (by decide), if_pos (by decide +kernel)] at h
theorem flawed_at {np : Nat} {P : Nat → Nat → Int} {nf : Nat} {F : Nat → Nat → Int} {k a : Int} (h : flawS np P nf F = (k, a)) {U : V} (hU : SubV U (meshV np P nf F)) : Pure Tryz.prog 28 [U, i64 k, i64 a] (fun o => o = .ret (.bool true)) := by
  have h2 := flawed_pure np P nf F k a
  rw [h, decide_eq_true rfl] at h2
  exact h2.args (.cons hU (.refl _))
end Go.Proofs.YtkhbmendaapojaaGreatDoor
/- The chapter's examples: works. -/
namespace Go.Proofs.YtkhbmendaapojaaGreatDoor
open Go Go.Vx Go.Num
set_option maxRecDepth 100000
attribute [local irreducible] CallV LoopV CodeV
def movL (i c : Nat) : Int := match i, c with
  | 1, 0 => 200000
  | _, 0 => 199000
  | 2, 1 => 1000
  | 3, 2 => 1000
  | _, _ => 0
theorem movL_eq : ∀ i, i < 4 → movP teP 199000 0 0 i 0 = movL i 0 ∧ movP teP 199000 0 0 i 1 = movL i 1 ∧ movP teP 199000 0 0 i 2 = movL i 2 := by decide +kernel
theorem te_mov1 : Pure Tryz.prog 21 [meshV 4 teP 4 teF, pt 199000 0 0] (fun o => o = .ret (.tup [meshV 4 movL 4 teF, i64 0])) := by
  refine Pure.retSub (te_mov.mono fun o ho => ?_)
  rw [ho]
  refine RetSub.of (.tup (.cons (.agg (.cons (SubV.ro fun i hi => ?_) (.cons (.refl _) .nil))) (.refl _)))
  obtain ⟨h1, h2, h3⟩ := movL_eq i hi
  show [i64 (movP teP 199000 0 0 i 0), i64 (movP teP 199000 0 0 i 1), i64 (movP teP 199000 0 0 i 2)] = [i64 (movL i 0), i64 (movL i 1), i64 (movL i 2)]
  rw [h1, h2, h3]
theorem te_mov0 : ∃ (N : Nat) (e : Int) (M : Nat → Nat → Int), N = 4 ∧ e = 0 ∧ (M 1 0 = 200000 ∧ M 1 1 = 0 ∧ M 1 2 = 0) ∧ Pure Tryz.prog 21 [meshV 4 teP 4 teF, pt 199000 0 0] (fun o => o = .ret (.tup [meshV N M 4 teF, i64 e])) :=
  ⟨4, 0, movL, rfl, rfl, by decide +kernel, te_mov1⟩
theorem subMesh {np nf : Nat} {gi hi P F : Nat → Nat → Int} (h1 : ∀ i c, i < np → c < 3 → gi i c = P i c) (h2 : ∀ i c, i < nf → c < 3 → hi i c = F i c) :
    SubV (.agg [.ro 3 np (fun i => [i64 (gi (0 + i) 0), i64 (gi (0 + i) 1), i64 (gi (0 + i) 2)]), .ro 3 nf (fun i => [i64 (hi (0 + i) 0), i64 (hi (0 + i) 1), i64 (hi (0 + i) 2)])]) (meshV np P nf F) :=
  .agg (.cons (subRow h1) (.cons (subRow h2) .nil))
set_option maxHeartbeats 2000000 in
theorem works_pure : Pure Tryz.prog 17 [] (fun o => o = .ret (.bool true)) := by
  refine pure_of0 Tryz.func17 rfl 400 ?_
  conv => whnf
  refine callP1 tetra_pure rfl ?_
  conv => whnf
  refine callS_frame tetra_call [] (by repeat' constructor) rfl rfl rfl rfl ?_
  rintro _ _ ⟨gi1, hi1, gb1, hb1, gs1, hs1, rfl, rfl, a1, b1⟩
  refine ⟨rfl, rfl, rfl, rfl, ?_⟩
  conv => whnf
  refine callS_frame tetra_call [] (by repeat' constructor) rfl rfl rfl rfl ?_
  rintro _ _ ⟨gi2, hi2, gb2, hb2, gs2, hs2, rfl, rfl, a2, b2⟩
  refine ⟨rfl, rfl, rfl, rfl, ?_⟩
  conv => whnf
  refine callS_frame tetra_call [] (by repeat' constructor) rfl rfl rfl rfl ?_
  rintro _ _ ⟨gi3, hi3, gb3, hb3, gs3, hs3, rfl, rfl, a3, b3⟩
  refine ⟨rfl, rfl, rfl, rfl, ?_⟩
  conv => whnf
  refine callS_frame tetra_call [] (by repeat' constructor) rfl rfl rfl rfl ?_
  rintro _ _ ⟨gi4, hi4, gb4, hb4, gs4, hs4, rfl, rfl, a4, b4⟩
  refine ⟨rfl, rfl, rfl, rfl, ?_⟩
  conv => whnf
  refine callF1 te_vol rfl rfl ?_
  conv => whnf
  refine callF1 te_eul rfl rfl ?_
  conv => whnf
  refine callF1 te_box rfl rfl ?_
  conv => whnf
  refine callF1 (flawed_at tetra_flaw (.refl _)) rfl rfl ?_
  conv => whnf
  obtain ⟨eh, he, hturn⟩ : ∃ e : Int, e = 0 ∧ Pure Tryz.prog 18 [meshV 4 teP 4 teF] (fun o => o = .ret (.tup [meshV 4 teP 4 (turnF teF), i64 e])) := ⟨0, rfl, te_turn⟩
  refine callP1 hturn rfl ?_
  conv => whnf
  obtain ⟨l, ei, hl, hi, hvol⟩ : ∃ (l : List UInt8) (e : Int), l = [45, 49, 48, 48, 48, 48, 48, 48, 48, 48, 48] ∧ e = 0 ∧ Pure Tryz.prog 11 [meshV 4 teP 4 (turnF teF)] (fun o => o = .ret (.tup [.str l, i64 e])) := ⟨_, 0, rfl, rfl, tu_vol⟩
  refine callF1 hvol rfl rfl ?_
  conv => whnf
  obtain ⟨N, ej, M, hN, hj, ⟨m0, m1, m2⟩, hmov⟩ := te_mov0
  refine callP1 hmov rfl ?_
  conv => whnf
  obtain ⟨ef, hf, hmov2⟩ : ∃ e : Int, e = 6 ∧ Pure Tryz.prog 21 [meshV 4 teP 4 teF, pt 199001 0 0] (fun o => o = .ret (.tup [noMesh, i64 e])) := ⟨6, rfl, te_mov2⟩
  refine callF1 hmov2 rfl rfl ?_
  conv => whnf
  refine branchF (by rw [he]; rfl) ?_
  conv => whnf
  refine branchF (by rw [hl]; rfl) ?_
  conv => whnf
  refine branchF (by rw [hi]; rfl) ?_
  conv => whnf
  refine branchF (by rw [hj]; rfl) ?_
  conv => whnf
  refine branchF (by rw [hf]; rfl) ?_
  conv => whnf
  refine branchF (by rw [hN]; rfl) ?_
  conv => whnf
  refine branchT (by rw [hN]; rfl) ?_
  conv => whnf
  refine branchF (by show (!(M 1 0 == 200000 && (M 1 1 == 0 && (M 1 2 == 0 && true)))) = false; rw [m0, m1, m2]; rfl) ?_
  conv => whnf
  refine callF1 (flawed_at less_flaw (subMesh a1 fun i c h1 h2 => b1 i c (by omega) h2)) rfl rfl ?_
  conv => whnf
  refine callF1 (flawed_at turned_flaw ?s2) rfl rfl ?_
  case s2 =>
    refine subMesh a2 fun i c h1 h2 => ?_
    have hi : i = 0 ∨ i = 1 ∨ i = 2 ∨ i = 3 := by omega
    have hc : c = 0 ∨ c = 1 ∨ c = 2 := by omega
    rcases hi with rfl | rfl | rfl | rfl <;> rcases hc with rfl | rfl | rfl <;> first | rfl | exact b2 _ _ (by decide) (by decide)
  conv => whnf
  refine callF1 (flawed_at flat_flaw ?s3) rfl rfl ?_
  case s3 =>
    refine subMesh (fun i c h1 h2 => ?_) b3
    have hi : i = 0 ∨ i = 1 ∨ i = 2 ∨ i = 3 := by omega
    have hc : c = 0 ∨ c = 1 ∨ c = 2 := by omega
    rcases hi with rfl | rfl | rfl | rfl <;> rcases hc with rfl | rfl | rfl <;> first | rfl | exact a3 _ _ (by decide) (by decide)
  conv => whnf
  refine callF1 (flawed_at twice_flaw ?s4) rfl rfl ?_
  case s4 =>
    refine subMesh a4 fun i c h1 h2 => ?_
    have hi : i = 0 ∨ i = 1 ∨ i = 2 ∨ i = 3 := by omega
    have hc : c = 0 ∨ c = 1 ∨ c = 2 := by omega
    rcases hi with rfl | rfl | rfl | rfl <;> rcases hc with rfl | rfl | rfl <;> first | rfl | exact b4 _ _ (by decide) (by decide)
  conv => whnf
  rfl
end Go.Proofs.YtkhbmendaapojaaGreatDoor
/- MeshFlaws: Flaw, Check and Same answer as the reference does. (Printed by mfgen.py.) -/
namespace Go.Proofs.YtkhbmendaapojaaGreatDoor
open Go Go.Vx Go.Num
set_option maxRecDepth 100000
attribute [local irreducible] CallV LoopV CodeV
theorem fl_both (m : BM) : ∃ k a, Pure Tryz.prog 31 [m.v] (fun o => o = .ret (.tup [i64 k, i64 a])) ∧ Pure Tryz.prog 32 [m.v] (fun o => o = .ret (.tup [i64 k, i64 a])) := ⟨_, _, mflaw_pure _ _ _ _, rflaw_pure _ _ _ _⟩
theorem ck_both (m : BM) : ∃ e, Pure Tryz.prog 23 [m.v] (fun o => o = .ret (i64 e)) ∧ Pure Tryz.prog 33 [m.v] (fun o => o = .ret (i64 e)) := ⟨_, mcheck_pure _ _ _ _, rcheck_pure _ _ _ _⟩
theorem sm_both {m : BM} (h : BM.le 81 m) (m' : BM) : ∃ b, Pure Tryz.prog 34 [m.v, m'.v] (fun o => o = .ret (.bool b)) ∧ Pure Tryz.prog 20 [m.v, m'.v] (fun o => o = .ret (.bool b)) := ⟨_, msame_pure _ _ _ _ _ _ _ _ (by have := h.1; show m.np < _; omega) (by have := h.2; show m.nf < _; omega), rsame_pure _ _ _ _ _ _ _ _ (by have := h.1; show m.np < _; omega) (by have := h.2; show m.nf < _; omega)⟩
theorem ne_int (k : Int) : (k != k) = false := by simp
theorem ne_bool (b : Bool) : (!(b == b)) = false := by simp
set_option maxHeartbeats 8000000 in
theorem mf_walk (np : Nat) (P : Nat → Nat → Int) (nf : Nat) (F : Nat → Nat → Int) (kd sz a0 a1 a2 : Int) (hk : 0 ≤ kd ∧ kd ≤ 255) (m : Nat) (g : Nat → Int) (tu : Bool)
    (w a t n : Int) (ha : 0 ≤ a ∧ a ≤ 255) (ht : 0 ≤ t ∧ t ≤ 255) (w' a' t' n' : Int) (ha' : 0 ≤ a' ∧ a' ≤ 255) (ht' : 0 ≤ t' ∧ t' ≤ 255) :
    Pure Tryz.prog 7 [meshV np P nf F, draftV kd sz a0 a1 a2 m g tu, .agg (bendV w a t n ++ bendV w' a' t' n')] (fun o => o = .ret (.bool true)) := by
  refine pure_of Tryz.func7 rfl 400 ?_
  conv => whnf
  refine callP (meshes_pure np P nf F kd sz a0 a1 a2 hk m g tu w a t n ha ht w' a' t' n' ha' ht') rfl ?_
  rintro _ ⟨M0, M1, M2, M3, ⟨l0, l1, l2, l3⟩, rfl⟩
  conv => whnf
  refine loop_unroll Tryz.eok 300 6 ?_
  conv => whnf
  obtain ⟨k0, f0, x0, y0⟩ := fl_both M0
  refine callF1 x0 rfl rfl ?_
  conv => whnf
  refine callF1 y0 rfl rfl ?_
  conv => whnf
  refine branchF (ne_int _) ?_
  conv => whnf
  refine branchF (ne_int _) ?_
  conv => whnf
  obtain ⟨e0, u0, v0⟩ := ck_both M0
  refine ⟨_, _, callD u0 rfl (.inl rfl), ?_⟩
  conv => whnf
  refine callF1 v0 rfl rfl ?_
  conv => whnf
  refine branchF (ne_int _) ?_
  conv => whnf
  refine loop_unroll Tryz.eok 300 6 ?_
  conv => whnf
  obtain ⟨b00, s00, r00⟩ := sm_both l0 M0
  refine ⟨_, _, callD s00 rfl (.inl rfl), ?_⟩
  conv => whnf
  refine callF1 r00 rfl rfl ?_
  conv => whnf
  refine branchF (ne_bool _) ?_
  conv => whnf
  obtain ⟨b01, s01, r01⟩ := sm_both l0 M1
  refine ⟨_, _, callD s01 rfl (.inl rfl), ?_⟩
  conv => whnf
  refine callF1 r01 rfl rfl ?_
  conv => whnf
  refine branchF (ne_bool _) ?_
  conv => whnf
  obtain ⟨b02, s02, r02⟩ := sm_both l0 M2
  refine ⟨_, _, callD s02 rfl (.inl rfl), ?_⟩
  conv => whnf
  refine callF1 r02 rfl rfl ?_
  conv => whnf
  refine branchF (ne_bool _) ?_
  conv => whnf
  obtain ⟨b03, s03, r03⟩ := sm_both l0 M3
  refine ⟨_, _, callD s03 rfl (.inl rfl), ?_⟩
  conv => whnf
  refine callF1 r03 rfl rfl ?_
  conv => whnf
  refine branchF (ne_bool _) ?_
  conv => whnf
  obtain ⟨k1, f1, x1, y1⟩ := fl_both M1
  refine callF1 x1 rfl rfl ?_
  conv => whnf
  refine callF1 y1 rfl rfl ?_
  conv => whnf
  refine branchF (ne_int _) ?_
  conv => whnf
  refine branchF (ne_int _) ?_
  conv => whnf
  obtain ⟨e1, u1, v1⟩ := ck_both M1
  refine ⟨_, _, callD u1 rfl (.inl rfl), ?_⟩
  conv => whnf
  refine callF1 v1 rfl rfl ?_
  conv => whnf
  refine branchF (ne_int _) ?_
  conv => whnf
  refine loop_unroll Tryz.eok 300 6 ?_
  conv => whnf
  obtain ⟨b10, s10, r10⟩ := sm_both l1 M0
  refine ⟨_, _, callD s10 rfl (.inl rfl), ?_⟩
  conv => whnf
  refine callF1 r10 rfl rfl ?_
  conv => whnf
  refine branchF (ne_bool _) ?_
  conv => whnf
  obtain ⟨b11, s11, r11⟩ := sm_both l1 M1
  refine ⟨_, _, callD s11 rfl (.inl rfl), ?_⟩
  conv => whnf
  refine callF1 r11 rfl rfl ?_
  conv => whnf
  refine branchF (ne_bool _) ?_
  conv => whnf
  obtain ⟨b12, s12, r12⟩ := sm_both l1 M2
  refine ⟨_, _, callD s12 rfl (.inl rfl), ?_⟩
  conv => whnf
  refine callF1 r12 rfl rfl ?_
  conv => whnf
  refine branchF (ne_bool _) ?_
  conv => whnf
  obtain ⟨b13, s13, r13⟩ := sm_both l1 M3
  refine ⟨_, _, callD s13 rfl (.inl rfl), ?_⟩
  conv => whnf
  refine callF1 r13 rfl rfl ?_
  conv => whnf
  refine branchF (ne_bool _) ?_
  conv => whnf
  obtain ⟨k2, f2, x2, y2⟩ := fl_both M2
  refine callF1 x2 rfl rfl ?_
  conv => whnf
  refine callF1 y2 rfl rfl ?_
  conv => whnf
  refine branchF (ne_int _) ?_
  conv => whnf
  refine branchF (ne_int _) ?_
  conv => whnf
  obtain ⟨e2, u2, v2⟩ := ck_both M2
  refine ⟨_, _, callD u2 rfl (.inl rfl), ?_⟩
  conv => whnf
  refine callF1 v2 rfl rfl ?_
  conv => whnf
  refine branchF (ne_int _) ?_
  conv => whnf
  refine loop_unroll Tryz.eok 300 6 ?_
  conv => whnf
  obtain ⟨b20, s20, r20⟩ := sm_both l2 M0
  refine ⟨_, _, callD s20 rfl (.inl rfl), ?_⟩
  conv => whnf
  refine callF1 r20 rfl rfl ?_
  conv => whnf
  refine branchF (ne_bool _) ?_
  conv => whnf
  obtain ⟨b21, s21, r21⟩ := sm_both l2 M1
  refine ⟨_, _, callD s21 rfl (.inl rfl), ?_⟩
  conv => whnf
  refine callF1 r21 rfl rfl ?_
  conv => whnf
  refine branchF (ne_bool _) ?_
  conv => whnf
  obtain ⟨b22, s22, r22⟩ := sm_both l2 M2
  refine ⟨_, _, callD s22 rfl (.inl rfl), ?_⟩
  conv => whnf
  refine callF1 r22 rfl rfl ?_
  conv => whnf
  refine branchF (ne_bool _) ?_
  conv => whnf
  obtain ⟨b23, s23, r23⟩ := sm_both l2 M3
  refine ⟨_, _, callD s23 rfl (.inl rfl), ?_⟩
  conv => whnf
  refine callF1 r23 rfl rfl ?_
  conv => whnf
  refine branchF (ne_bool _) ?_
  conv => whnf
  obtain ⟨k3, f3, x3, y3⟩ := fl_both M3
  refine callF1 x3 rfl rfl ?_
  conv => whnf
  refine callF1 y3 rfl rfl ?_
  conv => whnf
  refine branchF (ne_int _) ?_
  conv => whnf
  refine branchF (ne_int _) ?_
  conv => whnf
  obtain ⟨e3, u3, v3⟩ := ck_both M3
  refine ⟨_, _, callD u3 rfl (.inl rfl), ?_⟩
  conv => whnf
  refine callF1 v3 rfl rfl ?_
  conv => whnf
  refine branchF (ne_int _) ?_
  conv => whnf
  refine loop_unroll Tryz.eok 300 6 ?_
  conv => whnf
  obtain ⟨b30, s30, r30⟩ := sm_both l3 M0
  refine ⟨_, _, callD s30 rfl (.inl rfl), ?_⟩
  conv => whnf
  refine callF1 r30 rfl rfl ?_
  conv => whnf
  refine branchF (ne_bool _) ?_
  conv => whnf
  obtain ⟨b31, s31, r31⟩ := sm_both l3 M1
  refine ⟨_, _, callD s31 rfl (.inl rfl), ?_⟩
  conv => whnf
  refine callF1 r31 rfl rfl ?_
  conv => whnf
  refine branchF (ne_bool _) ?_
  conv => whnf
  obtain ⟨b32, s32, r32⟩ := sm_both l3 M2
  refine ⟨_, _, callD s32 rfl (.inl rfl), ?_⟩
  conv => whnf
  refine callF1 r32 rfl rfl ?_
  conv => whnf
  refine branchF (ne_bool _) ?_
  conv => whnf
  obtain ⟨b33, s33, r33⟩ := sm_both l3 M3
  refine ⟨_, _, callD s33 rfl (.inl rfl), ?_⟩
  conv => whnf
  refine callF1 r33 rfl rfl ?_
  conv => whnf
  refine branchF (ne_bool _) ?_
  conv => whnf
  refine callF1 works_pure rfl rfl ?_
  conv => whnf
  rfl
end Go.Proofs.YtkhbmendaapojaaGreatDoor
