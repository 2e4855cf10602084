/- The reference's numbers: Out, Of, Right. The reference's numbers: In, Add. The reference: Volume6, Box. MeshMeasures: Volume6, Euler and Box answer as the reference does. (Printed by mmgen.py.) MeshMeasures: the law of the chapter holds of every input: its row, and its card. -/
import Derived.Test.YtkhbmendaapojaaGreatDoorPkMe1
import Derived.Test.YtkhbmendaapojaaGreatDoorPkBa19
import Derived.Test.YtkhbmendaapojaaGreatDoorPkBa23
import Derived.Test.YtkhbmendaapojaaGreatDoorPkBa24
import Derived.Test.YtkhbmendaapojaaGreatDoorPkBa15
import Derived.Test.YtkhbmendaapojaaGreatDoorPkBa25
set_option linter.unusedSimpArgs false
set_option linter.unusedVariables false
/- The reference's numbers: Out, Of, Right. -/
namespace Go.Proofs.YtkhbmendaapojaaGreatDoor
open Go Go.Vx Go.Num
set_option maxRecDepth 100000
attribute [local irreducible] CallV LoopV CodeV
theorem decZ_len (z : Int) : (decZ z).length = (if z < 0 then 1 else 0) + (decN z.natAbs).length := by
  unfold decZ; split
  · rw [List.length_cons]; omega
  · omega
theorem nl_small {n k : Nat} (h : (decN n).length ≤ k) : nl 10000 n ≤ k := by
  have h1 := decN_length n
  refine (nl_le (by omega)).2 ?_
  by_cases h0 : n = 0
  · subst h0; exact Nat.pow_pos (by omega)
  · rw [if_neg h0] at h1
    have h2 := lt_pow_nl (b := 10) (by omega) n
    have hp : 10 ^ nl 10 n ≤ 10 ^ k := Nat.pow_le_pow_right (by omega) (by omega)
    have hq : 10 ^ k ≤ 10000 ^ k := Nat.pow_le_pow_left (by omega) _
    omega
theorem rout_pure (z : Int) (hz : nl 10000 z.natAbs < 100000) (hl : (decN z.natAbs).length < 4611686018427387904) :
    Pure Tryz.prog 69 [plainZ z] (fun o => o = .ret (toldS z)) := by
  refine pure_of Tryz.func69 rfl 200 ?_
  have hlen := decZ_len z
  have ht := rtext_pure z hz
  obtain ⟨l, hl1⟩ : ∃ l, l = decZ z := ⟨_, rfl⟩
  rw [← hl1] at ht hlen
  conv => whnf
  refine callF1 ht rfl rfl ?_
  conv => whnf
  refine branchI (fun hb => ?_) (fun hb => ?_)
  · have hb : decide (z < 0) = true := hb
    rw [if_pos (of_decide_eq_true hb)] at hlen
    have w1 : IntKind.i64.wrap ((l.length : Int) - 1) = ((decN z.natAbs).length : Nat) := by rw [w64_in (by omega)]; omega
    conv => whnf
    refine branchI (fun h6 => ?_) (fun h6 => ?_)
    · have h6 : decide (600 < IntKind.i64.wrap ((l.length : Int) - 1)) = true := h6
      rw [w1] at h6
      have h6 := of_decide_eq_true h6
      conv => whnf
      rw [toldS, if_pos (by omega)]
      rfl
    · have h6 : decide (600 < IntKind.i64.wrap ((l.length : Int) - 1)) = false := h6
      rw [w1] at h6
      have h6 := of_decide_eq_false h6
      conv => whnf
      rw [toldS, if_neg (by omega), ← hl1]
      rfl
  · have hb : decide (z < 0) = false := hb
    rw [if_neg (of_decide_eq_false hb), Nat.zero_add] at hlen
    conv => whnf
    refine branchI (fun h6 => ?_) (fun h6 => ?_)
    · have h6 : decide ((600 : Int) < (l.length : Int)) = true := h6
      have h6 := of_decide_eq_true h6
      conv => whnf
      rw [toldS, if_pos (by omega)]
      rfl
    · have h6 : decide ((600 : Int) < (l.length : Int)) = false := h6
      have h6 := of_decide_eq_false h6
      conv => whnf
      rw [toldS, if_neg (by omega), ← hl1]
      rfl
theorem rof_pure (n : Int) (hn : -9223372036854775808 ≤ n ∧ n ≤ 9223372036854775807) :
    Pure Tryz.prog 45 [i64 n] (fun o => o = .ret (.str (decZ n))) := by
  refine pure_of Tryz.func45 rfl 200 ?_
  have h5 : nl 10000 n.natAbs ≤ 5 := (nl_le (by omega)).2 (by omega)
  have h20 : (decN n.natAbs).length ≤ 20 := decN_len_le (by omega) (by omega)
  have ht := rout_pure n (by omega) (by omega)
  rw [toldS, if_neg (by omega)] at ht
  conv => whnf
  refine callP1 (rint_pure n hn) rfl ?_
  conv => whnf
  refine callF1 ht rfl rfl ?_
  conv => whnf
  rfl
theorem byteAt_mem {l : List UInt8} {i : Nat} (h : i < l.length) : ∃ c ∈ l, byteAt l i = (c.toNat : Int) := by
  refine ⟨l[i], List.getElem_mem h, ?_⟩
  unfold byteAt
  rw [List.getD_eq_getElem?_getD, List.getElem?_eq_getElem h]
  rfl
theorem byteAt_cons (c : UInt8) (t : List UInt8) (i : Nat) : byteAt (c :: t) (i + 1) = byteAt t i := rfl
theorem decN_byte {n i : Nat} (h : i < (decN n).length) : 48 ≤ byteAt (decN n) i ∧ byteAt (decN n) i ≤ 57 := by
  obtain ⟨c, hc, he⟩ := byteAt_mem h
  have := decN_isD n c hc
  unfold isD at this
  simp at this
  rw [he]; omega
theorem decN_first {n : Nat} (h : n ≠ 0) : byteAt (decN n) 0 ≠ 48 := by
  obtain ⟨d, h1, h2, hd⟩ := decN_head h
  intro hc
  have := (head48 (decN_ne n)).1 hc
  rw [hd] at this
  have := Option.some.inj this
  have e := dch_toNat (d := d) (by omega)
  rw [this] at e
  have : (48 : UInt8).toNat = 48 := rfl
  omega
theorem decN_pos (n : Nat) : 0 < (decN n).length := List.length_pos_iff.2 (decN_ne n)
structure DecZ (z : Int) (l : List UInt8) (f : Nat) : Prop where
  fe : f = if z < 0 then 1 else 0
  len : l.length = f + (decN z.natAbs).length
  b45 : (byteAt l 0 == 45) = decide (z < 0)
  dig : ∀ i, f ≤ i → i < l.length → 48 ≤ byteAt l i ∧ byteAt l i ≤ 57
  top : byteAt l f ≠ 48 ∨ l.length = 1
  tail : l.drop f = decN z.natAbs
theorem decZ_facts (z : Int) : DecZ z (decZ z) (if z < 0 then 1 else 0) := by
  by_cases hz : z < 0
  · have e : decZ z = 45 :: decN z.natAbs := by rw [decZ, if_pos hz]
    rw [if_pos hz, e]
    refine ⟨(if_pos hz).symm, by rw [List.length_cons]; omega, by rw [decide_eq_true hz]; rfl, fun i h1 h2 => ?_, .inl ?_, rfl⟩
    · obtain ⟨j, rfl⟩ : ∃ j, i = j + 1 := ⟨i - 1, by omega⟩
      rw [byteAt_cons]
      exact decN_byte (by rw [List.length_cons] at h2; omega)
    · exact decN_first (by omega)
  · have e : decZ z = decN z.natAbs := by rw [decZ, if_neg hz]
    rw [if_neg hz, e]
    have h0 := decN_byte (n := z.natAbs) (i := 0) (decN_pos _)
    refine ⟨(if_neg hz).symm, by omega, ?_, fun i _ h2 => decN_byte h2, ?_, rfl⟩
    · rw [decide_eq_false hz, beq_eq_false_iff_ne]; omega
    · by_cases hn : z.natAbs = 0
      · right; rw [hn]; rfl
      · left; exact decN_first hn
theorem rright_pure (z : Int) (hl : (decN z.natAbs).length ≤ 600) : Pure Tryz.prog 71 [.str (decZ z)] (fun o => o = .ret (.bool true)) := by
  have hd := decZ_facts z
  obtain ⟨l, hl1⟩ : ∃ l, l = decZ z := ⟨_, rfl⟩
  rw [← hl1] at hd ⊢
  have hp := decN_pos z.natAbs
  have hlen := hd.len
  refine pure_of Tryz.func71 rfl 200 ?_
  conv => whnf
  refine branchT (decide_eq_true (show (0 : Int) < (l.length : Int) by omega)) ?_
  conv => whnf
  refine branchT (guardI (a := 0) (n := l.length) ⟨by omega, by omega⟩) ?_
  conv => whnf
  by_cases hz : z < 0
  · rw [if_pos hz] at hd hlen
    refine branchT (show (byteAt l 0 == 45) = true by rw [hd.b45, decide_eq_true hz]) ?_
    have w0 : IntKind.i64.wrap ((l.length : Int) - 1) = ((decN z.natAbs).length : Nat) := by rw [w64_in (by omega)]; omega
    conv => whnf
    refine branchF (decide_eq_false (show ¬ IntKind.i64.wrap ((l.length : Int) - 1) < 1 by rw [w0]; omega)) ?_
    conv => whnf
    refine branchF (decide_eq_false (show ¬ 600 < IntKind.i64.wrap ((l.length : Int) - 1) by rw [w0]; omega)) ?_
    conv => whnf
    refine loop_inv Tryz.eok 180 (fun i : Nat => 1 ≤ i ∧ i ≤ l.length) (fun i => l.length - i)
      (fun i => slots [(0, .str l), (3, i64 1), (5, i64 (i : Nat))] 0 50) (fun _ => []) 1 [] ⟨Nat.le_refl _, by omega⟩ ?lr1 rfl ?_
    case lr1 =>
      repeat' constructor
      all_goals exact rfl
    rintro i ⟨i1, i2⟩
    have i1 : 1 ≤ i := i1
    have i2 : i ≤ l.length := i2
    by_cases hc : i < l.length
    · obtain ⟨d1, d2⟩ := hd.dig i (by omega) hc
      conv => whnf
      refine branchT (decide_eq_true (show (i : Int) < (l.length : Int) by omega)) ?_
      conv => whnf
      refine branchT (guardI (a := (i : Int)) (n := l.length) ⟨by omega, by omega⟩) ?_
      conv => whnf
      refine branchF (decide_eq_false (show ¬ byteAt l i < 48 by omega)) ?_
      conv => whnf
      refine branchT (guardI (a := (i : Int)) (n := l.length) ⟨by omega, by omega⟩) ?_
      conv => whnf
      refine branchF (decide_eq_false (show ¬ 57 < byteAt l i by omega)) ?_
      conv => whnf
      refine ⟨rfl, i + 1, [], ⟨by omega, hc⟩, by show l.length - (i + 1) < l.length - i; omega, rfl, ?_⟩
      repeat' constructor
      all_goals first | exact rfl | exact w64_nat (by omega)
    · obtain rfl : i = l.length := by omega
      conv => whnf
      refine branchF (decide_eq_false (show ¬ (l.length : Int) < (l.length : Int) by omega)) ?_
      conv => whnf
      refine branchT (guardI (a := (1 : Int)) (n := l.length) ⟨by omega, by omega⟩) ?_
      conv => whnf
      refine branchI (fun ht => ?_) (fun ht => ?_)
      · conv => whnf
        rfl
      · have ht : (byteAt l 1 != 48) = false := ht
        have ht : byteAt l 1 = 48 := by simpa using ht
        conv => whnf
        refine retB ?_
        show ((l.length : Int) == 1) = true
        rcases hd.top with h | h
        · exact absurd ht h
        · rw [h]; rfl
  · rw [if_neg hz] at hd hlen
    refine branchF (show (byteAt l 0 == 45) = false by rw [hd.b45, decide_eq_false hz]) ?_
    have w0 : IntKind.i64.wrap ((l.length : Int) - 0) = ((decN z.natAbs).length : Nat) := by rw [w64_in (by omega)]; omega
    conv => whnf
    refine branchF (decide_eq_false (show ¬ IntKind.i64.wrap ((l.length : Int) - 0) < 1 by rw [w0]; omega)) ?_
    conv => whnf
    refine branchF (decide_eq_false (show ¬ 600 < IntKind.i64.wrap ((l.length : Int) - 0) by rw [w0]; omega)) ?_
    conv => whnf
    refine loop_inv Tryz.eok 180 (fun i : Nat => 0 ≤ i ∧ i ≤ l.length) (fun i => l.length - i)
      (fun i => slots [(0, .str l), (3, i64 0), (5, i64 (i : Nat))] 0 50) (fun _ => []) 0 [] ⟨Nat.le_refl _, by omega⟩ ?lr0 rfl ?_
    case lr0 =>
      repeat' constructor
      all_goals exact rfl
    rintro i ⟨i1, i2⟩
    have i1 : 0 ≤ i := i1
    have i2 : i ≤ l.length := i2
    by_cases hc : i < l.length
    · obtain ⟨d1, d2⟩ := hd.dig i (by omega) hc
      conv => whnf
      refine branchT (decide_eq_true (show (i : Int) < (l.length : Int) by omega)) ?_
      conv => whnf
      refine branchT (guardI (a := (i : Int)) (n := l.length) ⟨by omega, by omega⟩) ?_
      conv => whnf
      refine branchF (decide_eq_false (show ¬ byteAt l i < 48 by omega)) ?_
      conv => whnf
      refine branchT (guardI (a := (i : Int)) (n := l.length) ⟨by omega, by omega⟩) ?_
      conv => whnf
      refine branchF (decide_eq_false (show ¬ 57 < byteAt l i by omega)) ?_
      conv => whnf
      refine ⟨rfl, i + 1, [], ⟨by omega, hc⟩, by show l.length - (i + 1) < l.length - i; omega, rfl, ?_⟩
      repeat' constructor
      all_goals first | exact rfl | exact w64_nat (by omega)
    · obtain rfl : i = l.length := by omega
      conv => whnf
      refine branchF (decide_eq_false (show ¬ (l.length : Int) < (l.length : Int) by omega)) ?_
      conv => whnf
      refine branchT (guardI (a := (0 : Int)) (n := l.length) ⟨by omega, by omega⟩) ?_
      conv => whnf
      refine branchI (fun ht => ?_) (fun ht => ?_)
      · conv => whnf
        rfl
      · have ht : (byteAt l 0 != 48) = false := ht
        have ht : byteAt l 0 = 48 := by simpa using ht
        conv => whnf
        refine retB ?_
        show ((l.length : Int) == 1) = true
        rcases hd.top with h | h
        · exact absurd ht h
        · rw [h]; rfl
end Go.Proofs.YtkhbmendaapojaaGreatDoor
/- The reference's numbers: In, Add. -/
namespace Go.Proofs.YtkhbmendaapojaaGreatDoor
open Go Go.Vx Go.Num
set_option maxRecDepth 100000
attribute [local irreducible] CallV LoopV CodeV
/-- Four digits (fewer at the front) of a number's text. -/
theorem chunk_val {N D m c : Nat} (hD : N < 10 ^ D) (hm : 4 * m + c ≤ D) (hc : c = 4 ∨ (c < 4 ∧ 4 * m + c = D)) :
    valD (((decD N D).take (D - 4 * m)).drop (D - 4 * m - c)) = dg 10000 N m := by
  rw [decD_take N (by omega), decD_drop (N / 10 ^ (4 * m)) (k := c) (j := D - 4 * m) (by omega), valD_decD]
  have e : (10 : Nat) ^ (4 * m) = 10000 ^ m := by rw [Nat.pow_mul]
  rw [e]
  rcases hc with rfl | ⟨h4, hc⟩
  · rfl
  · have h1 : N / 10000 ^ m < 10 ^ c := by
      rw [← e]
      refine (Nat.div_lt_iff_lt_mul (Nat.pow_pos (by omega))).2 ?_
      rw [← Nat.pow_add, Nat.add_comm c, hc]; exact hD
    have h2 : 10 ^ c ≤ 10 ^ 4 := Nat.pow_le_pow_right (by omega) (by omega)
    unfold dg
    rw [Nat.mod_eq_of_lt h1, Nat.mod_eq_of_lt (by omega)]
theorem take_snoc {l : List UInt8} {p i : Nat} (hp : p ≤ i) (hi : i < l.length) : (l.take (i + 1)).drop p = (l.take i).drop p ++ [l[i]] := by
  rw [List.take_succ_eq_append_getElem hi, List.drop_append_of_le_length (by simp; omega)]
theorem byteAt_get {l : List UInt8} {i : Nat} (h : i < l.length) : byteAt l i = (l[i].toNat : Int) := by
  unfold byteAt
  rw [List.getD_eq_getElem?_getD, List.getElem?_eq_getElem h]
  rfl
theorem u8_sub {b : Int} (h : 48 ≤ b ∧ b ≤ 57) : IntKind.i64.wrap (IntKind.u8.wrap (b - 48)) = b - 48 := by
  have h : b = 48 ∨ b = 49 ∨ b = 50 ∨ b = 51 ∨ b = 52 ∨ b = 53 ∨ b = 54 ∨ b = 55 ∨ b = 56 ∨ b = 57 := by omega
  rcases h with rfl | rfl | rfl | rfl | rfl | rfl | rfl | rfl | rfl | rfl <;> decide
theorem valD_bd {l : List UInt8} (h : ∀ c ∈ l, isD c = true) (h4 : l.length ≤ 4) : valD l < 10000 := by
  have h1 := (decD_valD h).2
  have h2 : 10 ^ l.length ≤ 10 ^ 4 := Nat.pow_le_pow_right (by omega) h4
  omega
theorem chunk_isD {l : List UInt8} {f p i : Nat} (hd : ∀ j, f ≤ j → j < l.length → 48 ≤ byteAt l j ∧ byteAt l j ≤ 57) (hp : f ≤ p) (hi : i ≤ l.length) : ∀ c ∈ (l.take i).drop p, isD c = true := by
  intro c hc
  obtain ⟨j, hj, rfl⟩ := List.getElem_of_mem hc
  have hj2 : p + j < i := by simp at hj; omega
  have h := hd (p + j) (by omega) (by omega)
  rw [byteAt_get (by omega)] at h
  rw [List.getElem_drop, List.getElem_take]
  unfold isD
  simp
  omega
theorem chunk_eq {l : List UInt8} {f D N m c : Nat} (ht : l.drop f = decD N D) (hlen : l.length = f + D) (hm : 4 * m + c ≤ D) :
    (l.take (f + D - 4 * m)).drop (f + D - 4 * m - c) = ((decD N D).take (D - 4 * m)).drop (D - 4 * m - c) := by
  have e2 : f + D - 4 * m - c = f + (D - 4 * m - c) := by omega
  have e1 : f + D - 4 * m = f + (D - 4 * m) := by omega
  rw [e2, e1, ← ht, List.take_drop, List.drop_drop]
set_option maxHeartbeats 1000000 in
theorem rin_pure (z : Int) (hl : (decN z.natAbs).length ≤ 600) : Pure Tryz.prog 73 [.str (decZ z)] (fun o => o = .ret (plainZ z)) := by
  have hd := decZ_facts z
  obtain ⟨l, hl1⟩ : ∃ l, l = decZ z := ⟨_, rfl⟩
  rw [← hl1] at hd ⊢
  have hp := decN_pos z.natAbs
  obtain ⟨D, hD⟩ : ∃ D, D = (decN z.natAbs).length := ⟨_, rfl⟩
  have hND : z.natAbs < 10 ^ D := by
    rw [hD, decN_length]
    split
    · rename_i h; rw [h]; decide
    · exact lt_pow_nl (by omega) _
  have hNK : z.natAbs < 10000 ^ ((D + 3) / 4) := by
    have h1 : 10 ^ D ≤ 10 ^ (4 * ((D + 3) / 4)) := Nat.pow_le_pow_right (by omega) (by omega)
    rw [Nat.pow_mul] at h1
    exact Nat.lt_of_lt_of_le hND h1
  have hdd : decN z.natAbs = decD z.natAbs D := by rw [hD]; exact decN_eq_decD _
  have hd10 := hd.tail
  rw [hdd] at hd10
  have hl0 := hd.len
  rw [← hD] at hl hp hl0
  refine pure_of Tryz.func73 rfl 200 ?_
  conv => whnf
  refine branchT (guardI (a := 0) (n := l.length) ⟨by omega, by omega⟩) ?_
  conv => whnf
  by_cases hz : z < 0
  · rw [if_pos hz] at hd hd10 hl0
    refine branchT (show (byteAt l 0 == 45) = true by rw [hd.b45, decide_eq_true hz]) ?_
    have hlen := hl0
    conv => whnf
    refine loop_inv Tryz.eok 180 (fun s : Gh => s.1 ≤ (D + 3) / 4 ∧ ∀ j, j < s.1 → s.2.1 j 0 = (dg 10000 z.natAbs j : Nat)) (fun s => (D + 3) / 4 - s.1)
      (fun s => slots [(0, .str l), (2, .ptr 0 0 0), (3, i64 1), (4, .sl 1 1 0 s.1 s.1), (5, i64 ((l.length : Int) - 4 * (s.1 : Nat)))] 0 43)
      (fun s => [.fix 117 [.bool false, .nilSl], .arr 3 [.int .i64] s.2.1 s.2.2.1 s.2.2.2]) ⟨0, fun _ _ => 0, fun _ _ => false, fun _ _ => []⟩ [1000000] ⟨Nat.zero_le _, fun j hj => absurd hj (Nat.not_lt_zero j)⟩ ?lo1 rfl ?_
    case lo1 =>
      repeat' constructor
      all_goals first | exact rfl | (show (l.length : Int) = (l.length : Int) - 4 * ((0 : Nat) : Int); omega)
    rintro ⟨m, gi, gb, gs⟩ ⟨hm, hg⟩
    have hm : m ≤ (D + 3) / 4 := hm
    have hg : ∀ j, j < m → gi j 0 = (dg 10000 z.natAbs j : Nat) := hg
    by_cases hc : m < (D + 3) / 4
    · obtain ⟨e, he⟩ : ∃ e : Nat, e = 1 + D - 4 * m := ⟨_, rfl⟩
      have wen : (l.length : Int) - 4 * (m : Nat) = (e : Nat) := by omega
      obtain ⟨c, hc1, hc2⟩ : ∃ c, 4 * m + c ≤ D ∧ (c = 4 ∨ (c < 4 ∧ 4 * m + c = D)) := by
        by_cases c4 : 4 * m + 4 ≤ D
        · exact ⟨4, c4, .inl rfl⟩
        · exact ⟨D - 4 * m, by omega, .inr ⟨by omega, by omega⟩⟩
      obtain ⟨p, hp⟩ : ∃ p, p = e - c := ⟨_, rfl⟩
      have wst : (if IntKind.i64.wrap ((l.length : Int) - 4 * (m : Nat) - 4) < 1 then (1 : Int) else IntKind.i64.wrap ((l.length : Int) - 4 * (m : Nat) - 4)) = (p : Nat) := by
        rw [w64_in (by omega)]
        split <;> omega
      conv => whnf
      refine branchT (decide_eq_true (show (1 : Int) < (l.length : Int) - 4 * (m : Nat) by omega)) ?_
      conv => whnf
      refine loop_inv Tryz.eok 120 (fun i : Nat => p ≤ i ∧ i ≤ e) (fun i => e - i)
        (fun i => slots [(0, .str l), (2, .ptr 0 0 0), (3, i64 1), (4, .sl 1 1 0 m m), (5, i64 (e : Nat)), (6, i64 (valD ((l.take i).drop p) : Nat)), (7, i64 (i : Nat))] 0 43)
        (fun _ => [.fix 117 [.bool false, .nilSl], .arr 3 [.int .i64] gi gb gs]) p [] ⟨Nat.le_refl _, by omega⟩ ?li1 rfl ?_
      case li1 =>
        repeat' constructor
        all_goals first | exact rfl | exact wst | exact wen | (show (0 : Int) = ((valD ((l.take p).drop p) : Nat) : Int); rw [List.drop_eq_nil_of_le (by simp; omega)]; rfl)
      rintro i ⟨i1, i2⟩
      have i1 : p ≤ i := i1
      have i2 : i ≤ e := i2
      by_cases hi : i < e
      · have hil : i < l.length := by omega
        have hb := hd.dig i (by omega) hil
        have hv : valD ((l.take i).drop p) < 10000 := valD_bd (chunk_isD hd.dig (by omega) (by omega)) (by simp; omega)
        have hs : ((valD ((l.take (i + 1)).drop p) : Nat) : Int) = (valD ((l.take i).drop p) : Nat) * 10 + (byteAt l i - 48) := by
          rw [take_snoc i1 hil, valD_snoc, byteAt_get hil]
          rw [byteAt_get hil] at hb
          omega
        conv => whnf
        refine branchT (decide_eq_true (show (i : Int) < (e : Int) by omega)) ?_
        conv => whnf
        refine branchT (guardI (a := (i : Int)) (n := l.length) ⟨by omega, by omega⟩) ?_
        conv => whnf
        refine ⟨rfl, i + 1, [], ⟨by omega, hi⟩, by show e - (i + 1) < e - i; omega, rfl, ?_⟩
        repeat' constructor
        all_goals first | exact rfl | exact w64_nat (by omega) | skip
        show IntKind.i64.wrap (IntKind.i64.wrap ((valD ((l.take i).drop p) : Nat) * 10) + IntKind.i64.wrap (IntKind.u8.wrap (byteAt l i - 48))) = ((valD ((l.take (i + 1)).drop p) : Nat) : Int)
        rw [u8_sub hb, w64_in (x := ((valD ((l.take i).drop p) : Nat) : Int) * 10) (by omega), w64_in (by omega), hs]
      · obtain rfl : i = e := by omega
        have hval : valD ((l.take i).drop p) = dg 10000 z.natAbs m := by
          rw [hp, he, chunk_eq hd10 hlen hc1]
          exact chunk_val hND hc1 hc2
        conv => whnf
        refine branchF (decide_eq_false (show ¬ (i : Int) < (i : Int) by omega)) ?_
        conv => whnf
        refine branchT (fits_ok (Nat.le_refl 8) (by show m + 1 ≤ _; omega)) ?_
        conv => whnf
        refine ⟨rfl, ⟨m + 1, ?gi1b, ?gb1b, ?gs1b⟩, [3], ?inv1b, ?mu1b, rfl, ?ls1b⟩
        case ls1b =>
          repeat' constructor
          all_goals first | exact rfl | skip
          show IntKind.i64.wrap ((i : Int) - 4) = (l.length : Int) - 4 * ((m + 1 : Nat) : Int)
          rw [w64_in (by omega)]; omega
        case mu1b => show (D + 3) / 4 - (m + 1) < (D + 3) / 4 - m; omega
        case inv1b => exact ⟨by show m + 1 ≤ (D + 3) / 4; omega, push_at hg (v := ((valD ((l.take i).drop p) : Nat) : Int)) rfl (congrArg Nat.cast hval)⟩
    · obtain rfl : m = (D + 3) / 4 := by omega
      conv => whnf
      refine branchF (decide_eq_false (show ¬ (1 : Int) < (l.length : Int) - 4 * (((D + 3) / 4 : Nat) : Int) by omega)) ?_
      conv => whnf
      refine callP1 ((made_pure true z.natAbs ((D + 3) / 4) _ rfl hNK (by omega) rfl).args (.cons (.refl _) (.cons (SubV.ro (f := fun j => [.int .i64 (gi (0 + j) 0)]) fun j hj => ?_) .nil))) rfl ?_
      · show [V.int .i64 (gi (0 + j) 0)] = [V.int .i64 ((dg 10000 z.natAbs j : Nat) : Int)]
        rw [Nat.zero_add, hg j hj]
      conv => whnf
      exact retV (plainV_eq (b := true) (z := z) rfl (fun h => by first | omega | cases h) (fun h => by first | omega | cases h))
  · rw [if_neg hz] at hd hd10 hl0
    refine branchF (show (byteAt l 0 == 45) = false by rw [hd.b45, decide_eq_false hz]) ?_
    have hlen := hl0
    conv => whnf
    refine loop_inv Tryz.eok 180 (fun s : Gh => s.1 ≤ (D + 3) / 4 ∧ ∀ j, j < s.1 → s.2.1 j 0 = (dg 10000 z.natAbs j : Nat)) (fun s => (D + 3) / 4 - s.1)
      (fun s => slots [(0, .str l), (2, .ptr 0 0 0), (3, i64 0), (4, .sl 1 1 0 s.1 s.1), (5, i64 ((l.length : Int) - 4 * (s.1 : Nat)))] 0 43)
      (fun s => [.fix 117 [.bool false, .nilSl], .arr 3 [.int .i64] s.2.1 s.2.2.1 s.2.2.2]) ⟨0, fun _ _ => 0, fun _ _ => false, fun _ _ => []⟩ [1000000] ⟨Nat.zero_le _, fun j hj => absurd hj (Nat.not_lt_zero j)⟩ ?lo0 rfl ?_
    case lo0 =>
      repeat' constructor
      all_goals first | exact rfl | (show (l.length : Int) = (l.length : Int) - 4 * ((0 : Nat) : Int); omega)
    rintro ⟨m, gi, gb, gs⟩ ⟨hm, hg⟩
    have hm : m ≤ (D + 3) / 4 := hm
    have hg : ∀ j, j < m → gi j 0 = (dg 10000 z.natAbs j : Nat) := hg
    by_cases hc : m < (D + 3) / 4
    · obtain ⟨e, he⟩ : ∃ e : Nat, e = 0 + D - 4 * m := ⟨_, rfl⟩
      have wen : (l.length : Int) - 4 * (m : Nat) = (e : Nat) := by omega
      obtain ⟨c, hc1, hc2⟩ : ∃ c, 4 * m + c ≤ D ∧ (c = 4 ∨ (c < 4 ∧ 4 * m + c = D)) := by
        by_cases c4 : 4 * m + 4 ≤ D
        · exact ⟨4, c4, .inl rfl⟩
        · exact ⟨D - 4 * m, by omega, .inr ⟨by omega, by omega⟩⟩
      obtain ⟨p, hp⟩ : ∃ p, p = e - c := ⟨_, rfl⟩
      have wst : (if IntKind.i64.wrap ((l.length : Int) - 4 * (m : Nat) - 4) < 0 then (0 : Int) else IntKind.i64.wrap ((l.length : Int) - 4 * (m : Nat) - 4)) = (p : Nat) := by
        rw [w64_in (by omega)]
        split <;> omega
      conv => whnf
      refine branchT (decide_eq_true (show (0 : Int) < (l.length : Int) - 4 * (m : Nat) by omega)) ?_
      conv => whnf
      refine loop_inv Tryz.eok 120 (fun i : Nat => p ≤ i ∧ i ≤ e) (fun i => e - i)
        (fun i => slots [(0, .str l), (2, .ptr 0 0 0), (3, i64 0), (4, .sl 1 1 0 m m), (5, i64 (e : Nat)), (6, i64 (valD ((l.take i).drop p) : Nat)), (7, i64 (i : Nat))] 0 43)
        (fun _ => [.fix 117 [.bool false, .nilSl], .arr 3 [.int .i64] gi gb gs]) p [] ⟨Nat.le_refl _, by omega⟩ ?li0 rfl ?_
      case li0 =>
        repeat' constructor
        all_goals first | exact rfl | exact wst | exact wen | (show (0 : Int) = ((valD ((l.take p).drop p) : Nat) : Int); rw [List.drop_eq_nil_of_le (by simp; omega)]; rfl)
      rintro i ⟨i1, i2⟩
      have i1 : p ≤ i := i1
      have i2 : i ≤ e := i2
      by_cases hi : i < e
      · have hil : i < l.length := by omega
        have hb := hd.dig i (by omega) hil
        have hv : valD ((l.take i).drop p) < 10000 := valD_bd (chunk_isD hd.dig (by omega) (by omega)) (by simp; omega)
        have hs : ((valD ((l.take (i + 1)).drop p) : Nat) : Int) = (valD ((l.take i).drop p) : Nat) * 10 + (byteAt l i - 48) := by
          rw [take_snoc i1 hil, valD_snoc, byteAt_get hil]
          rw [byteAt_get hil] at hb
          omega
        conv => whnf
        refine branchT (decide_eq_true (show (i : Int) < (e : Int) by omega)) ?_
        conv => whnf
        refine branchT (guardI (a := (i : Int)) (n := l.length) ⟨by omega, by omega⟩) ?_
        conv => whnf
        refine ⟨rfl, i + 1, [], ⟨by omega, hi⟩, by show e - (i + 1) < e - i; omega, rfl, ?_⟩
        repeat' constructor
        all_goals first | exact rfl | exact w64_nat (by omega) | skip
        show IntKind.i64.wrap (IntKind.i64.wrap ((valD ((l.take i).drop p) : Nat) * 10) + IntKind.i64.wrap (IntKind.u8.wrap (byteAt l i - 48))) = ((valD ((l.take (i + 1)).drop p) : Nat) : Int)
        rw [u8_sub hb, w64_in (x := ((valD ((l.take i).drop p) : Nat) : Int) * 10) (by omega), w64_in (by omega), hs]
      · obtain rfl : i = e := by omega
        have hval : valD ((l.take i).drop p) = dg 10000 z.natAbs m := by
          rw [hp, he, chunk_eq hd10 hlen hc1]
          exact chunk_val hND hc1 hc2
        conv => whnf
        refine branchF (decide_eq_false (show ¬ (i : Int) < (i : Int) by omega)) ?_
        conv => whnf
        refine branchT (fits_ok (Nat.le_refl 8) (by show m + 1 ≤ _; omega)) ?_
        conv => whnf
        refine ⟨rfl, ⟨m + 1, ?gi1a, ?gb1a, ?gs1a⟩, [3], ?inv1a, ?mu1a, rfl, ?ls1a⟩
        case ls1a =>
          repeat' constructor
          all_goals first | exact rfl | skip
          show IntKind.i64.wrap ((i : Int) - 4) = (l.length : Int) - 4 * ((m + 1 : Nat) : Int)
          rw [w64_in (by omega)]; omega
        case mu1a => show (D + 3) / 4 - (m + 1) < (D + 3) / 4 - m; omega
        case inv1a => exact ⟨by show m + 1 ≤ (D + 3) / 4; omega, push_at hg (v := ((valD ((l.take i).drop p) : Nat) : Int)) rfl (congrArg Nat.cast hval)⟩
    · obtain rfl : m = (D + 3) / 4 := by omega
      conv => whnf
      refine branchF (decide_eq_false (show ¬ (0 : Int) < (l.length : Int) - 4 * (((D + 3) / 4 : Nat) : Int) by omega)) ?_
      conv => whnf
      refine callP1 ((made_pure false z.natAbs ((D + 3) / 4) _ rfl hNK (by omega) rfl).args (.cons (.refl _) (.cons (SubV.ro (f := fun j => [.int .i64 (gi (0 + j) 0)]) fun j hj => ?_) .nil))) rfl ?_
      · show [V.int .i64 (gi (0 + j) 0)] = [V.int .i64 ((dg 10000 z.natAbs j : Nat) : Int)]
        rw [Nat.zero_add, hg j hj]
      conv => whnf
      exact retV (plainV_eq (b := false) (z := z) rfl (fun h => by first | omega | cases h) (fun h => by first | omega | cases h))
theorem radd_pure (x y : Int) (hx : (decN x.natAbs).length ≤ 600) (hy : (decN y.natAbs).length ≤ 600) :
    Pure Tryz.prog 48 [.str (decZ x), .str (decZ y)] (fun o => o = .ret (toldS (x + y))) := by
  have nx := nl_small hx
  have ny := nl_small hy
  refine pure_of Tryz.func48 rfl 200 ?_
  conv => whnf
  refine callF1 (rright_pure x hx) rfl rfl ?_
  conv => whnf
  refine callF1 (rright_pure y hy) rfl rfl ?_
  conv => whnf
  refine callP1 (rin_pure x hx) rfl ?_
  conv => whnf
  refine callP1 (rin_pure y hy) rfl ?_
  conv => whnf
  refine callP1 (rplus_pure x y (by omega) (by omega)) rfl ?_
  conv => whnf
  have ks := kS_lt x.natAbs y.natAbs
  have kb : kS x.natAbs y.natAbs ≤ 601 := by
    unfold kS
    have := carry_le (b := 10000) (by omega) x.natAbs y.natAbs (max (nl 10000 x.natAbs) (nl 10000 y.natAbs))
    omega
  have hle : (x + y).natAbs ≤ x.natAbs + y.natAbs := by omega
  have n1 : nl 10000 (x + y).natAbs ≤ kS x.natAbs y.natAbs := (nl_le (by omega)).2 (Nat.lt_of_le_of_lt hle ks)
  have n2 : (decN (x + y).natAbs).length ≤ 4 * kS x.natAbs y.natAbs + 1 := by
    refine decN_len_le (by omega) ?_
    have e : (10 : Nat) ^ (4 * kS x.natAbs y.natAbs + 1) = 10000 ^ kS x.natAbs y.natAbs * 10 := by rw [Nat.pow_succ, Nat.pow_mul]
    rw [e]
    omega
  have ho := rout_pure (x + y) (by omega) (by omega)
  by_cases h6 : 600 < (decN (x + y).natAbs).length
  · rw [toldS, if_pos h6] at ho ⊢
    refine callF1 ho rfl rfl ?_
    conv => whnf
    rfl
  · rw [toldS, if_neg h6] at ho ⊢
    refine callF1 ho rfl rfl ?_
    conv => whnf
    rfl
end Go.Proofs.YtkhbmendaapojaaGreatDoor
/- The reference: Volume6, Box. -/
namespace Go.Proofs.YtkhbmendaapojaaGreatDoor
open Go Go.Vx Go.Num
set_option maxRecDepth 100000
attribute [local irreducible] CallV LoopV CodeV
theorem raddz_pure (x y : Int) (hx : x.natAbs < 10 ^ 29) (hy : y.natAbs < 10 ^ 29) : Pure Tryz.prog 48 [.str (decZ x), .str (decZ y)] (fun o => o = .ret (.tup [.str (decZ (x + y)), i64 0])) := by
  have := radd_pure x y (digs (by omega)) (digs (by omega))
  have h2 := digs (z := x + y) (by omega)
  rwa [toldS, if_neg (by omega)] at this
theorem rvol_pure (np : Nat) (P : Nat → Nat → Int) (nf : Nat) (F : Nat → Nat → Int) :
    Pure Tryz.prog 12 [meshV np P nf F] (fun o => o = .ret (volS np P nf F)) := by
  refine pure_of Tryz.func12 rfl 300 ?_
  conv => whnf
  refine callF1 (rcheck_pure np P nf F) rfl rfl ?_
  by_cases hf : 0 < (flawS np P nf F).1
  · rw [checkS, if_pos hf]
    conv => whnf
    rw [volS, if_pos hf]
    rfl
  · rw [checkS, if_neg hf]
    obtain ⟨h1, h2⟩ := flaw_ok hf
    obtain ⟨⟨np1, np2⟩, ⟨nf1, nf2⟩, hfar, hbad, -⟩ := msingle_ok h1
    conv => whnf
    refine callF1 (rof_pure 0 (by omega)) rfl rfl ?_
    conv => whnf
    refine loop_inv Tryz.eok 280 (fun s : Nat × Int => s.1 ≤ nf ∧ s.2 = volZ P F s.1 ∧ s.2.natAbs ≤ s.1 * 48000000000000000) (fun s => nf - s.1)
      (fun s => slots [(1, .ptr 0 0 0), (5, .str (decZ s.2)), (6, i64 s.1)] 0 61)
      (fun s => [.fix 24 [rows3 np P, rows3 nf F]]) (0, 0) [] ⟨Nat.zero_le _, rfl, by decide⟩ ?_ rfl ?_
    · repeat' constructor
    rintro ⟨k, S⟩ ⟨hk, hs, hv⟩
    have hk : k ≤ nf := hk
    have hs : S = volZ P F k := hs
    have hv : S.natAbs ≤ k * 48000000000000000 := hv
    conv => whnf
    refine branchI (fun h3 => ?_) (fun h3 => ?_)
    · have h3 : decide ((k : Int) < (nf : Int)) = true := h3
      have h3' := of_decide_eq_true h3
      obtain ⟨b0, b1, b2, -⟩ := badF_false (hbad k (by omega))
      obtain ⟨dz, db⟩ := det_ok (far3_bd (hfar (F k 0).toNat (by omega))) (far3_bd (hfar (F k 1).toNat (by omega))) (far3_bd (hfar (F k 2).toNat (by omega)))
      conv => whnf
      refine branchT (guardI ⟨by show (0 : Int) ≤ (k : Int); omega, by show (k : Int) < (nf : Int); omega⟩) ?_
      conv => whnf
      refine branchT (guardI ⟨by show 0 ≤ F k 0; omega, by show F k 0 < (np : Int); omega⟩) ?_
      conv => whnf
      refine branchT (guardI ⟨by show 0 ≤ F k 1; omega, by show F k 1 < (np : Int); omega⟩) ?_
      conv => whnf
      refine branchT (guardI ⟨by show 0 ≤ F k 2; omega, by show F k 2 < (np : Int); omega⟩) ?_
      conv => whnf
      first | refine ⟨_, _, callD (rcross_pure _ _ _ _ _ _) rfl (.inl rfl), ?_⟩ | refine callF1 (rcross_pure _ _ _ _ _ _) rfl rfl ?_
      conv => whnf
      first | refine ⟨_, _, callD (rdot_pure _ _ _ _ _ _) rfl (.inl rfl), ?_⟩ | refine callF1 (rdot_pure _ _ _ _ _ _) rfl rfl ?_
      conv => whnf
      have hdb : (detZ P F k).natAbs ≤ 48000000000000000 := db
      refine callF1 (rof_pure (detZ P F k) ⟨by omega, by omega⟩) (congrArg (fun z => [V.int .i64 z]) dz) rfl ?_
      conv => whnf
      refine callF1 (raddz_pure S (detZ P F k) (by omega) (by omega)) rfl rfl ?_
      conv => whnf
      refine ⟨rfl, ⟨k + 1, S + detZ P F k⟩, [], ⟨by show k + 1 ≤ nf; omega, by show S + detZ P F k = volZ P F (k + 1); rw [hs]; rfl, by show (S + detZ P F k).natAbs ≤ (k + 1) * 48000000000000000; omega⟩, by show nf - (k + 1) < nf - k; omega, rfl, ?_⟩
      repeat' constructor
      all_goals first | exact rfl | exact w64_nat (by omega) | skip
    · have h3 : decide ((k : Int) < (nf : Int)) = false := h3
      have h3' := of_decide_eq_false h3
      obtain rfl : k = nf := by omega
      conv => whnf
      rw [volS, if_neg hf, ← hs]
      rfl
theorem lo_one (P : Nat → Nat → Int) (c : Nat) : P 0 c = loN P c 1 := by simp [loN]
theorem hi_one (P : Nat → Nat → Int) (c : Nat) : P 0 c = hiN P c 1 := by simp [hiN]
theorem rbox_pure (np : Nat) (P : Nat → Nat → Int) (nf : Nat) (F : Nat → Nat → Int) :
    Pure Tryz.prog 16 [meshV np P nf F] (fun o => o = .ret (boxS np P nf F)) := by
  refine pure_of Tryz.func16 rfl 300 ?_
  conv => whnf
  refine callF1 (rcheck_pure np P nf F) rfl rfl ?_
  by_cases hf : 0 < (flawS np P nf F).1
  · rw [checkS, if_pos hf]
    conv => whnf
    rw [boxS, if_pos hf]
    rfl
  · rw [checkS, if_neg hf]
    obtain ⟨h1, h2⟩ := flaw_ok hf
    obtain ⟨⟨np1, np2⟩, ⟨nf1, nf2⟩, -⟩ := msingle_ok h1
    conv => whnf
    refine branchT (guardI ⟨Int.le_refl 0, by omega⟩) ?_
    conv => whnf
    refine branchT (guardI ⟨Int.le_refl 0, by omega⟩) ?_
    conv => whnf
    refine loop_inv Tryz.eok 280 (fun k : Nat => 1 ≤ k ∧ k ≤ np) (fun k => np - k)
      (fun k => slots [(1, .ptr 0 0 0), (2, .ptr 1 0 0), (3, .ptr 2 0 0), (6, .ptr 11 0 0), (7, .ptr 12 0 0), (8, i64 k)] 0 64)
      (fun k => .fix 24 [rows3 np P, rows3 nf F] :: .fix 41 [i64 0, i64 0, i64 0] :: .fix 41 [i64 0, i64 0, i64 0] :: .dead :: .dead :: .dead :: .dead :: .dead :: .dead :: .dead :: .dead :: .fix 41 [i64 (loN P 0 k), i64 (loN P 1 k), i64 (loN P 2 k)] :: .fix 41 [i64 (hiN P 0 k), i64 (hiN P 1 k), i64 (hiN P 2 k)] :: [.dead]) 1 [] ⟨Nat.le_refl _, by omega⟩ ?_ rfl ?_
    · repeat' constructor
      all_goals first | exact lo_one P _ | exact hi_one P _
    rintro k ⟨k1, hk⟩
    have k1 : 1 ≤ k := k1
    have hk : k ≤ np := hk
    conv => whnf
    refine branchI (fun h3 => ?_) (fun h3 => ?_)
    · have h3 : decide ((k : Int) < (np : Int)) = true := h3
      have h3' := of_decide_eq_true h3
      conv => whnf
      refine loop_unroll Tryz.eok 280 5 ?_
      conv => whnf
      repeat (refine branchT (guardI ⟨by omega, by omega⟩) ?_; conv => whnf)
      refine ⟨rfl, k + 1, [], ⟨by omega, by omega⟩, by show np - (k + 1) < np - k; omega, rfl, ?_⟩
      repeat' constructor
      all_goals first | exact rfl | exact w64_nat (by omega) | skip
    · have h3 : decide ((k : Int) < (np : Int)) = false := h3
      have h3' := of_decide_eq_false h3
      obtain rfl : k = np := by omega
      conv => whnf
      rw [boxS, if_neg hf]
      rfl
end Go.Proofs.YtkhbmendaapojaaGreatDoor
/- MeshMeasures: Volume6, Euler and Box answer as the reference does. (Printed by mmgen.py.) -/
namespace Go.Proofs.YtkhbmendaapojaaGreatDoor
open Go Go.Vx Go.Num
set_option maxRecDepth 100000
attribute [local irreducible] CallV LoopV CodeV
theorem vo_both (m : BM) : ∃ l e, Pure Tryz.prog 11 [m.v] (fun o => o = .ret (.tup [.str l, i64 e])) ∧ Pure Tryz.prog 12 [m.v] (fun o => o = .ret (.tup [.str l, i64 e])) := by
  have h1 := vol_pure m.np m.P m.nf m.F
  have h2 := rvol_pure m.np m.P m.nf m.F
  by_cases hf : 0 < (flawS m.np m.P m.nf m.F).1
  · rw [volS, if_pos hf] at h1 h2; exact ⟨_, _, h1, h2⟩
  · rw [volS, if_neg hf] at h1 h2; exact ⟨_, _, h1, h2⟩
theorem eu_both (m : BM) : ∃ a b e, Pure Tryz.prog 13 [m.v] (fun o => o = .ret (.tup [i64 a, i64 b, i64 e])) ∧ Pure Tryz.prog 14 [m.v] (fun o => o = .ret (.tup [i64 a, i64 b, i64 e])) := by
  have h1 := meuler_pure m.np m.P m.nf m.F
  have h2 := reuler_pure m.np m.P m.nf m.F
  by_cases hf : 0 < (flawS m.np m.P m.nf m.F).1
  · rw [eulerS, if_pos hf] at h1 h2; exact ⟨_, _, _, h1, h2⟩
  · rw [eulerS, if_neg hf] at h1 h2; exact ⟨_, _, _, h1, h2⟩
theorem bx_both (m : BM) : ∃ a b c x y z e, Pure Tryz.prog 15 [m.v] (fun o => o = .ret (.tup [pt a b c, pt x y z, i64 e])) ∧ Pure Tryz.prog 16 [m.v] (fun o => o = .ret (.tup [pt a b c, pt x y z, i64 e])) := by
  have h1 := box_pure m.np m.P m.nf m.F
  have h2 := rbox_pure m.np m.P m.nf m.F
  by_cases hf : 0 < (flawS m.np m.P m.nf m.F).1
  · rw [boxS, if_pos hf] at h1 h2; exact ⟨_, _, _, _, _, _, _, h1, h2⟩
  · rw [boxS, if_neg hf] at h1 h2; exact ⟨_, _, _, _, _, _, _, h1, h2⟩
theorem ne_str (l : List UInt8) : (!(l == l)) = false := by simp
theorem ne_pt (a b c : Int) : (!(a == a && (b == b && (c == c && true)))) = false := by simp
set_option maxHeartbeats 8000000 in
theorem mm_walk (np : Nat) (P : Nat → Nat → Int) (nf : Nat) (F : Nat → Nat → Int) (kd sz a0 a1 a2 : Int) (hk : 0 ≤ kd ∧ kd ≤ 255) (m : Nat) (g : Nat → Int) (tu : Bool)
    (w a t n : Int) (ha : 0 ≤ a ∧ a ≤ 255) (ht : 0 ≤ t ∧ t ≤ 255) (w' a' t' n' : Int) (ha' : 0 ≤ a' ∧ a' ≤ 255) (ht' : 0 ≤ t' ∧ t' ≤ 255) :
    Pure Tryz.prog 3 [meshV np P nf F, draftV kd sz a0 a1 a2 m g tu, .agg (bendV w a t n ++ bendV w' a' t' n')] (fun o => o = .ret (.bool true)) := by
  refine pure_of Tryz.func3 rfl 400 ?_
  conv => whnf
  refine callP (meshes_pure np P nf F kd sz a0 a1 a2 hk m g tu w a t n ha ht w' a' t' n' ha' ht') rfl ?_
  rintro _ ⟨M0, M1, M2, M3, ⟨l0, l1, l2, l3⟩, rfl⟩
  conv => whnf
  refine loop_unroll Tryz.eok 300 6 ?_
  conv => whnf
  obtain ⟨s0, e0, v0, r0⟩ := vo_both M0
  refine callF1 v0 rfl rfl ?_
  conv => whnf
  refine callF1 r0 rfl rfl ?_
  conv => whnf
  obtain ⟨x0, y0, f0, u0, q0⟩ := eu_both M0
  refine callF1 u0 rfl rfl ?_
  conv => whnf
  refine callF1 q0 rfl rfl ?_
  conv => whnf
  obtain ⟨b00, b10, b20, c00, c10, c20, g0, h0, k0⟩ := bx_both M0
  refine callF1 h0 rfl rfl ?_
  conv => whnf
  refine callF1 k0 rfl rfl ?_
  conv => whnf
  refine branchF (ne_str _) ?_
  conv => whnf
  refine branchF (ne_int _) ?_
  conv => whnf
  refine branchF (ne_int _) ?_
  conv => whnf
  refine branchF (ne_int _) ?_
  conv => whnf
  refine branchF (ne_int _) ?_
  conv => whnf
  refine branchF (ne_pt _ _ _) ?_
  conv => whnf
  refine branchF (ne_pt _ _ _) ?_
  conv => whnf
  refine branchF (ne_int _) ?_
  conv => whnf
  obtain ⟨s1, e1, v1, r1⟩ := vo_both M1
  refine callF1 v1 rfl rfl ?_
  conv => whnf
  refine callF1 r1 rfl rfl ?_
  conv => whnf
  obtain ⟨x1, y1, f1, u1, q1⟩ := eu_both M1
  refine callF1 u1 rfl rfl ?_
  conv => whnf
  refine callF1 q1 rfl rfl ?_
  conv => whnf
  obtain ⟨b01, b11, b21, c01, c11, c21, g1, h1, k1⟩ := bx_both M1
  refine callF1 h1 rfl rfl ?_
  conv => whnf
  refine callF1 k1 rfl rfl ?_
  conv => whnf
  refine branchF (ne_str _) ?_
  conv => whnf
  refine branchF (ne_int _) ?_
  conv => whnf
  refine branchF (ne_int _) ?_
  conv => whnf
  refine branchF (ne_int _) ?_
  conv => whnf
  refine branchF (ne_int _) ?_
  conv => whnf
  refine branchF (ne_pt _ _ _) ?_
  conv => whnf
  refine branchF (ne_pt _ _ _) ?_
  conv => whnf
  refine branchF (ne_int _) ?_
  conv => whnf
  obtain ⟨s2, e2, v2, r2⟩ := vo_both M2
  refine callF1 v2 rfl rfl ?_
  conv => whnf
  refine callF1 r2 rfl rfl ?_
  conv => whnf
  obtain ⟨x2, y2, f2, u2, q2⟩ := eu_both M2
  refine callF1 u2 rfl rfl ?_
  conv => whnf
  refine callF1 q2 rfl rfl ?_
  conv => whnf
  obtain ⟨b02, b12, b22, c02, c12, c22, g2, h2, k2⟩ := bx_both M2
  refine callF1 h2 rfl rfl ?_
  conv => whnf
  refine callF1 k2 rfl rfl ?_
  conv => whnf
  refine branchF (ne_str _) ?_
  conv => whnf
  refine branchF (ne_int _) ?_
  conv => whnf
  refine branchF (ne_int _) ?_
  conv => whnf
  refine branchF (ne_int _) ?_
  conv => whnf
  refine branchF (ne_int _) ?_
  conv => whnf
  refine branchF (ne_pt _ _ _) ?_
  conv => whnf
  refine branchF (ne_pt _ _ _) ?_
  conv => whnf
  refine branchF (ne_int _) ?_
  conv => whnf
  obtain ⟨s3, e3, v3, r3⟩ := vo_both M3
  refine callF1 v3 rfl rfl ?_
  conv => whnf
  refine callF1 r3 rfl rfl ?_
  conv => whnf
  obtain ⟨x3, y3, f3, u3, q3⟩ := eu_both M3
  refine callF1 u3 rfl rfl ?_
  conv => whnf
  refine callF1 q3 rfl rfl ?_
  conv => whnf
  obtain ⟨b03, b13, b23, c03, c13, c23, g3, h3, k3⟩ := bx_both M3
  refine callF1 h3 rfl rfl ?_
  conv => whnf
  refine callF1 k3 rfl rfl ?_
  conv => whnf
  refine branchF (ne_str _) ?_
  conv => whnf
  refine branchF (ne_int _) ?_
  conv => whnf
  refine branchF (ne_int _) ?_
  conv => whnf
  refine branchF (ne_int _) ?_
  conv => whnf
  refine branchF (ne_int _) ?_
  conv => whnf
  refine branchF (ne_pt _ _ _) ?_
  conv => whnf
  refine branchF (ne_pt _ _ _) ?_
  conv => whnf
  refine branchF (ne_int _) ?_
  conv => whnf
  refine callF1 works_pure rfl rfl ?_
  conv => whnf
  rfl
theorem meshMeasures_pure (Vs : List V) (h : FitAll Tryz.tab Tryz.f3.params.toList Vs) : Pure Tryz.prog 3 Vs (fun o => o = .ret (.bool true)) := by
  have h : FitAll Tryz.tab [24, 29, 32] Vs := h
  match Vs, h with
  | [v1, v2, v3], ⟨h1, h2, h3, _⟩ =>
    obtain ⟨np, P, nf, F, rfl⟩ := fit_mesh h1
    obtain ⟨kd, sz, a0, a1, a2, m, g, tu, hk, rfl⟩ := fit_draft h2
    obtain ⟨w, a, t, n, w', a', t', n', ha, ht, ha', ht', rfl⟩ := fit_bends h3
    exact mm_walk np P nf F kd sz a0 a1 a2 hk m g tu w a t n ha ht w' a' t' n' ha' ht'
end Go.Proofs.YtkhbmendaapojaaGreatDoor
/- MeshMeasures: the law of the chapter holds of every input: its row, and its card. -/
namespace Go.Proofs.YtkhbmendaapojaaGreatDoor
open Go Go.Vx Go.ChangeShapes Go.WideShapes Go.RowKit
set_option maxRecDepth 100000
theorem meshMeasures_lifted (os : Os) (started : os.Started) (H : Type) (enc : TypeId × Value → H) :
    ReturnsInHanded {} Tryz.checked os 3 .any (fun w args => (Rows.meshMeasuresSpec.pre enc Tryz.prog Tryz.f3 [] false w args ∧ laidMetH Tryz.prog Rows.meshMeasuresRow.laid w) ∧ sizedMet enc Tryz.prog Tryz.f3 (OpenSpec.ofChange Rows.meshMeasuresSpec) false w args)
      (Rows.meshMeasuresSpec.post enc Tryz.prog Tryz.f3 false true false false) := by
  refine returnsInHanded_of_change_and (C := Tryz.checked) (X := fun w _ => laidMetH Tryz.prog Rows.meshMeasuresRow.laid w) (fun _ _ _ hh h => h.of_heap hh) own0 started (by kernel_rfl) Tryz.func3
    (ChangeSpec.witness_shaped (enc := enc) (C := Tryz.checked) (os := os) (X := fun w _ => laidMetH Tryz.prog Rows.meshMeasuresRow.laid w) false (World.doorLaid Tryz.prog 400 os) #[.agg #[.slice none 0 0, .slice none 0 0], .agg #[.int .u8 0, .int .u8 0, .int .i16 0, .int .i16 0, .int .i16 0, .slice none 0 0, .bool false], .agg #[.int .u8 0, .int .u8 0, .int .u8 0, .int .i64 0, .int .u8 0, .int .u8 0, .int .u8 0, .int .i64 0]] 12 rfl (shaped0 os _) (by kernel_rfl) (by kernel_rfl) (by kernel_rfl) (door0 os _)) ?_
  intro W base args ds gs before hval hW _ _ hL _
  refine law_calls (T := Tryz.tab) (b := 4) Tryz.tok laidOut0 rfl ?_ rfl Tryz.underlying4 ?_ hval hW (glob0 hL) ?_
  · intro ds hds
    have hp : Tryz.f3.params.size = 3 := rfl
    rw [hp] at hds
    match ds, hds with
    | [_, _, _], _ => rfl
  · intro t ht
    have ht : t ∈ ([24, 29, 32] : List Nat) := ht
    simp only [List.mem_cons, List.not_mem_nil, or_false] at ht
    rcases ht with rfl | rfl | rfl
    all_goals exact ⟨by kernel_rfl, of_decide_eq_true (by kernel_rfl), by kernel_rfl⟩
  · exact fun Vs h => meshMeasures_pure Vs h
theorem meshMeasures_holds : Rows.MeshMeasuresSaid :=
  OpenClaim.holds_of_wide 3 Tryz.f3 rfl rfl rfl rfl rfl rfl rfl ⟨rfl, rfl, rfl, rfl, rfl⟩ rfl rfl rfl rfl rfl (by kernel_rfl) Tryz.func3 (by kernel_rfl)
    (of_decide_eq_true (by kernel_rfl)) (by unfold Func.isWrapper; rw [if_neg (of_decide_eq_false (by kernel_rfl))]; exact ⟨rfl, rfl⟩)
    (fun os started H enc _ => meshMeasures_lifted os started H enc)
theorem meshMeasures_card : Rows.MeshMeasuresCardSaid :=
  Claim7.holds_tied_plain_at .later [] [.data, .data, .data, .sentinel, .sentinel] true (true, "41064d927b8550ee3a774af7aafa0f1c5e0adbd75066ec920d62864df12f8d35") true
    meshMeasures_holds (fun _ h => by cases h) (by kernel_rfl) (fun _ h => by cases h) meshMeasures_row_tie rfl ⟨rfl, rfl⟩ (by kernel_rfl) rfl
    (fun f fn hf hfn => by
      obtain rfl : f = 3 := Option.some.inj ((show Tryz.prog.funcNamed "verdigris/verdigrislaw35.MeshMeasures" = some 3 by kernel_rfl).symm.trans hf) |>.symm
      obtain rfl : fn = Tryz.f3 := (Option.some.inj (Tryz.func3.symm.trans hfn)).symm
      exact ⟨by kernel_rfl, fun j t ht => by
        have hm : t ∈ ([24, 29, 32] : List Nat) := by simpa using Array.mem_of_getElem? ht
        have hall : (([24, 29, 32] : List Nat).all fun u => !Tryz.prog.wantsStandIn u) = true := by kernel_rfl
        exact (show Tryz.prog.wantsStandIn t = false by simpa using List.all_eq_true.1 hall t hm)⟩)
    (by kernel_rfl)
end Go.Proofs.YtkhbmendaapojaaGreatDoor
