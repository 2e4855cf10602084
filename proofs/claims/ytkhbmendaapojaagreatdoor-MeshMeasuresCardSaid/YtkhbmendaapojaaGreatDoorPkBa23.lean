/- Decimal texts of the library: FormatUint; zeros; what a text begins with. A strings.Builder, as the program uses it; numbers told as texts. Numbers with a sign: Sum. Numbers told as texts. Integers as numbers, and as texts. -/
import Derived.Test.YtkhbmendaapojaaGreatDoorPkBa22
import Derived.WalkKit
import Derived.Laws.Externs
import Derived.Lib.Builder
import Derived.Test.YtkhbmendaapojaaGreatDoorPkBa18
set_option linter.unusedSimpArgs false
set_option linter.unusedVariables false
/- Decimal texts of the library: FormatUint; zeros; what a text begins with. -/
namespace Go.Proofs.YtkhbmendaapojaaGreatDoor
open Go Go.Vx Go.Num
set_option maxRecDepth 100000
attribute [local irreducible] CallV LoopV CodeV
theorem small_dec1 {l : List UInt8} (hl : l = [48, 49, 50, 51, 52, 53, 54, 55, 56, 57, 97, 98, 99, 100, 101, 102, 103, 104, 105, 106, 107, 108, 109, 110, 111, 112, 113, 114, 115, 116, 117, 118, 119, 120, 121, 122]) : l.length = 36 ∧ ∀ n, n < 10 → List.drop n (List.take (n + 1) l) = decN n := by
  subst hl; decide
theorem small_dec2 {l : List UInt8} (hl : l = smallsL) : l.length = 200 ∧ ∀ n, n < 100 → 10 ≤ n → List.drop (n * 2) (List.take (n * 2 + 2) l) = decN n := by
  subst hl; decide
theorem small_pure (n : Nat) (h : n < 100) : Pure Tryz.prog 103 [i64 n] (fun o => o = .ret (.str (decN n))) := by
  refine pure_of Tryz.func103 rfl 300 ?_
  have hw : ∀ m : Nat, m < 1000 → IntKind.i64.wrap ((m : Nat) : Int) = (m : Int) := fun m hm => w64_in (by omega)
  conv => whnf
  refine branchI (fun h1 => ?_) (fun h1 => ?_)
  · conv => whnf
    have h1 : n < 10 := by have := of_decide_eq_true h1; omega
    have e1 : IntKind.i64.wrap ((n : Int) + 1) = ((n + 1 : Nat) : Int) := w64_nat (by omega)
    refine branchT (by rw [e1, (small_dec1 (by kernel_rfl)).1]; simp; omega) ?_
    conv => whnf
    refine retS ?_
    rw [e1]
    exact (small_dec1 (by kernel_rfl)).2 n h1
  · conv => whnf
    have h1 : ¬ n < 10 := by have := of_decide_eq_false h1; omega
    have e1 : IntKind.i64.wrap ((n : Int) * 2) = ((n * 2 : Nat) : Int) := by rw [w64_in (by omega)]; omega
    have e2 : IntKind.i64.wrap (((n * 2 : Nat) : Int) + 2) = ((n * 2 + 2 : Nat) : Int) := by rw [w64_in (by omega)]; omega
    refine branchT (by rw [e1, e2, (small_dec2 (by kernel_rfl)).1]; simp; omega) ?_
    conv => whnf
    refine retS ?_
    rw [e1, e2]
    exact (small_dec2 (by kernel_rfl)).2 n h (by omega)
theorem ifmt_pure (n : Nat) (hn : n < 1000000000000000000) : Pure Tryz.prog 111 [u64 n, i64 10] (fun o => o = .ret (.str (decN n))) := by
  by_cases h : 100 ≤ n
  · have h1 : nl 10 n ≤ 18 := (nl_le (by omega)).2 (by omega)
    have h2 : 2 < nl 10 n := (nl_lt (by omega)).2 (by omega)
    have : nl 10 n = 3 ∨ nl 10 n = 4 ∨ nl 10 n = 5 ∨ nl 10 n = 6 ∨ nl 10 n = 7 ∨ nl 10 n = 8 ∨ nl 10 n = 9 ∨ nl 10 n = 10 ∨ nl 10 n = 11 ∨ nl 10 n = 12 ∨ nl 10 n = 13 ∨ nl 10 n = 14 ∨ nl 10 n = 15 ∨ nl 10 n = 16 ∨ nl 10 n = 17 ∨ nl 10 n = 18 := by omega
    rcases this with h3 | h3 | h3 | h3 | h3 | h3 | h3 | h3 | h3 | h3 | h3 | h3 | h3 | h3 | h3 | h3
    · exact fmt_d3 n h h3 (by omega)
    · exact fmt_d4 n h h3 (by omega)
    · exact fmt_d5 n h h3 (by omega)
    · exact fmt_d6 n h h3 (by omega)
    · exact fmt_d7 n h h3 (by omega)
    · exact fmt_d8 n h h3 (by omega)
    · exact fmt_d9 n h h3 (by omega)
    · exact fmt_d10 n h h3 (by omega)
    · exact fmt_d11 n h h3 (by omega)
    · exact fmt_d12 n h h3 (by omega)
    · exact fmt_d13 n h h3 (by omega)
    · exact fmt_d14 n h h3 (by omega)
    · exact fmt_d15 n h h3 (by omega)
    · exact fmt_d16 n h h3 (by omega)
    · exact fmt_d17 n h h3 (by omega)
    · exact fmt_d18 n h h3 (by omega)
  · refine pure_of Tryz.func111 rfl 300 ?_
    conv => whnf
    refine branchT (decide_eq_true (by omega)) ?_
    conv => whnf
    refine callF1 (v := .str (decN n)) (Ws := [i64 n]) (small_pure n (by omega)) ?_ rfl ?_
    · show [V.int .i64 (IntKind.i64.wrap (n : Int))] = _
      rw [w64_in (by omega)]
    conv => whnf
    rfl
theorem fmt_pure (n : Nat) (hn : n < 1000000000000000000) : Pure Tryz.prog 88 [u64 n, i64 10] (fun o => o = .ret (.str (decN n))) := by
  refine pure_of Tryz.func88 rfl 300 ?_
  conv => whnf
  refine callF1 (ifmt_pure n hn) rfl rfl ?_
  conv => whnf
  rfl
theorem pow18 (k : Nat) : (1000000000000000000 : Nat) ^ k = 10 ^ (18 * k) := by rw [show (1000000000000000000 : Nat) = 10 ^ 18 by decide, Nat.pow_mul]
theorem top_dg {n : Nat} (h : n ≠ 0) : dg 1000000000000000000 n (nl 1000000000000000000 n - 1) = n / 1000000000000000000 ^ (nl 1000000000000000000 n - 1) := by
  have hp := nl_pos (b := 1000000000000000000) (by omega) h
  unfold dg
  refine Nat.mod_eq_of_lt ?_
  rw [Nat.div_lt_iff_lt_mul (Nat.pow_pos (by omega)), Nat.mul_comm, ← Nat.pow_succ, show (nl 1000000000000000000 n - 1).succ = nl 1000000000000000000 n by omega]
  exact lt_pow_nl (by omega) n
theorem len18 {n : Nat} (h : n ≠ 0) : (decN n).length = 18 * (nl 1000000000000000000 n - 1) + (decN (dg 1000000000000000000 n (nl 1000000000000000000 n - 1))).length := by
  have hp := nl_pos (b := 1000000000000000000) (by omega) h
  have ht := dg_top (b := 1000000000000000000) (by omega) h
  have hle : 1000000000000000000 ^ (nl 1000000000000000000 n - 1) ≤ n := (nl_lt (by omega)).1 (by omega)
  rw [decN_length, decN_length, if_neg h, if_neg ht, top_dg h, pow18]
  rw [pow18] at hle
  exact nl_div (by omega) hle
theorem decN_len_le {n k : Nat} (hk : 0 < k) (h : n < 10 ^ k) : (decN n).length ≤ k := by
  rw [decN_length]; split
  · exact hk
  · exact (nl_le (by omega)).2 h
theorem digits_pure (n : Nat) (hn : nl 1000000000000000000 n < 100000000) : Pure Tryz.prog 86 [massV n] (fun o => o = .ret (i64 (decN n).length)) := by
  refine pure_of Tryz.func86 rfl 300 ?_
  conv => whnf
  refine branchI (fun h1 => ?_) (fun h1 => ?_)
  · have h1 : ((nl 1000000000000000000 n : Int) == 0) = true := h1
    have hz : nl 1000000000000000000 n = 0 := by have := eq_of_beq h1; omega
    obtain rfl := (nl_eq_zero (by omega)).1 hz
    conv => whnf
    rfl
  · have h1 : ((nl 1000000000000000000 n : Int) == 0) = false := h1
    have hz : nl 1000000000000000000 n ≠ 0 := fun hc => by rw [hc] at h1; cases h1
    have h0 : n ≠ 0 := fun hc => hz (by rw [hc]; rfl)
    have hw : IntKind.i64.wrap ((nl 1000000000000000000 n : Int) - 1) = ((nl 1000000000000000000 n - 1 : Nat) : Int) := w64_pred (by omega) (by omega)
    have hd := dg_lt (b := 1000000000000000000) (by omega) n (nl 1000000000000000000 n - 1)
    conv => whnf
    refine branchT (by rw [hw]; exact guardI (by omega)) ?_
    conv => whnf
    refine callF1 (v := .str (decN (dg 1000000000000000000 n (nl 1000000000000000000 n - 1)))) (fmt_pure _ hd) ?_ rfl ?_
    · show [V.int .u64 ((dg 1000000000000000000 n (IntKind.i64.wrap ((nl 1000000000000000000 n : Int) - 1)).toNat : Nat) : Int), i64 10] = _
      rw [hw]; rfl
    conv => whnf
    refine retI ?_
    have hl := decN_len_le (k := 18) (by omega) hd
    rw [hw, w64_in (x := 18 * _) (by omega), w64_in (by omega), len18 h0]
    omega
theorem and32n (x : Nat) (h : x < 18446744073709551616) : (BitVec.ofInt IntKind.u64.bits (x : Int) &&& BitVec.ofInt IntKind.u64.bits 4294967295).toNat = x % 4294967296 := by
  rw [BitVec.toNat_and, BitVec.toNat_ofInt, BitVec.toNat_ofInt]
  rw [show (((x : Int) % ((2 ^ IntKind.u64.bits : Nat) : Int)).toNat) = x by
    show (((x : Int) % 18446744073709551616).toNat) = x
    omega]
  exact Nat.and_two_pow_sub_one_eq_mod x 32
theorem and32 (x : Nat) (h : x < 18446744073709551616) : IntKind.u64.wrap ((BitVec.ofInt IntKind.u64.bits (x : Int) &&& BitVec.ofInt IntKind.u64.bits 4294967295).toNat : Int) = ((x % 4294967296 : Nat) : Int) := by
  rw [and32n x h, u64n, Nat.mod_eq_of_lt (show x % 4294967296 < 18446744073709551616 by omega)]
theorem mul_hi (x y : Nat) (hx : x < 18446744073709551616) (hy : y < 18446744073709551616) :
    (x / 4294967296) * (y / 4294967296) + ((x / 4294967296) * (y % 4294967296) + (x % 4294967296) * (y % 4294967296) / 4294967296) / 4294967296 +
      (((x / 4294967296) * (y % 4294967296) + (x % 4294967296) * (y % 4294967296) / 4294967296) % 4294967296 + (x % 4294967296) * (y / 4294967296)) / 4294967296 = x * y / 18446744073709551616 ∧
    (x / 4294967296) * (y / 4294967296) ≤ 18446744065119617025 ∧ (x / 4294967296) * (y % 4294967296) ≤ 18446744065119617025 ∧ (x % 4294967296) * (y % 4294967296) ≤ 18446744065119617025 ∧ (x % 4294967296) * (y / 4294967296) ≤ 18446744065119617025 := by
  have h1 : x / 4294967296 ≤ 4294967295 := by omega
  have h2 : x % 4294967296 ≤ 4294967295 := by omega
  have h3 : y / 4294967296 ≤ 4294967295 := by omega
  have h4 : y % 4294967296 ≤ 4294967295 := by omega
  have e : x * y = (x / 4294967296 * 4294967296 + x % 4294967296) * (y / 4294967296 * 4294967296 + y % 4294967296) := by
    rw [show x / 4294967296 * 4294967296 + x % 4294967296 = x by omega, show y / 4294967296 * 4294967296 + y % 4294967296 = y by omega]
  have b11 := Nat.mul_le_mul h1 h3
  have b10 := Nat.mul_le_mul h1 h4
  have b01 := Nat.mul_le_mul h2 h3
  have b00 := Nat.mul_le_mul h2 h4
  generalize x / 4294967296 = a at *
  generalize x % 4294967296 = b at *
  generalize y / 4294967296 = c at *
  generalize y % 4294967296 = d at *
  have e2 : (a * 4294967296 + b) * (c * 4294967296 + d) = a * c * 18446744073709551616 + (a * d + b * c) * 4294967296 + b * d := by
    rw [Nat.add_mul, Nat.mul_add, Nat.mul_add, Nat.add_mul (a * d)]
    have p1 : a * 4294967296 * (c * 4294967296) = a * c * 18446744073709551616 := by
      rw [Nat.mul_mul_mul_comm]
    have p2 : a * 4294967296 * d = a * d * 4294967296 := by rw [Nat.mul_right_comm]
    have p3 : b * (c * 4294967296) = b * c * 4294967296 := by rw [Nat.mul_assoc]
    rw [p1, p2, p3]; omega
  rw [e, e2]
  generalize a * c = p at *
  generalize a * d = q at *
  generalize b * c = r at *
  generalize b * d = s at *
  refine ⟨?_, b11, b10, b00, b01⟩
  omega
theorem mul64_pure (x y : Nat) (hx : x < 18446744073709551616) (hy : y < 18446744073709551616) :
    Pure Tryz.prog 137 [u64 x, u64 y] (fun o => o = .ret (.tup [u64 (x * y / 18446744073709551616 : Nat), u64 (x * y % 18446744073709551616 : Nat)])) := by
  refine pure_of Tryz.func137 rfl 300 ?_
  obtain ⟨h1, b11, b10, b00, b01⟩ := mul_hi x y hx hy
  conv => whnf
  refine retV ?_
  show V.tup [V.int .u64 _, V.int .u64 (IntKind.u64.wrap ((x : Int) * (y : Int)))] = _
  have m : ∀ a b : Nat, ((a : Int) * (b : Int)) = ((a * b : Nat) : Int) := fun a b => (Int.natCast_mul a b).symm
  have ad : ∀ a b : Nat, ((a : Int) + (b : Int)) = ((a + b : Nat) : Int) := fun a b => (Int.natCast_add a b).symm
  rw [and32 x hx, and32 y hy, shr32, shr32]
  simp only [m, ad, u64n, shr32]
  rw [and32n _ (Nat.mod_lt _ (by omega))]
  refine congrArg (fun z : Nat => V.tup [u64 (z : Int), u64 (x * y % 18446744073709551616 : Nat)]) ?_
  rw [← h1]
  generalize x / 4294967296 * (y / 4294967296) = p at *
  generalize x / 4294967296 * (y % 4294967296) = q at *
  generalize x % 4294967296 * (y / 4294967296) = r at *
  generalize x % 4294967296 * (y % 4294967296) = s at *
  have : x * y / 18446744073709551616 < 18446744073709551616 := by
    rw [Nat.div_lt_iff_lt_mul (by omega)]; exact Nat.mul_lt_mul'' hx hy
  generalize x * y / 18446744073709551616 = z at *
  omega
theorem mul_pure (x y : Nat) (hx : x < 18446744073709551616) (hy : y < 18446744073709551616) :
    Pure Tryz.prog 113 [.int .u64 x, .int .u64 y] (fun o => o = .ret (.tup [u64 (x * y / 18446744073709551616 : Nat), u64 (x * y % 18446744073709551616 : Nat)])) := by
  refine pure_of Tryz.func113 rfl 300 ?_
  have w : ∀ n : Nat, n < 18446744073709551616 → IntKind.u64.wrap (n : Int) = (n : Int) := fun n h => u64_in (by omega)
  conv => whnf
  refine callF1 (mul64_pure x y hx hy) rfl rfl ?_
  conv => whnf
  rfl
theorem zeros64 {l : List UInt8} (hl : l = List.replicate 64 48) : l.length = 64 ∧ ∀ n, n ≤ 64 → List.drop 0 (List.take n l) = List.replicate n 48 := by
  subst hl
  refine ⟨by simp, fun n hn => ?_⟩
  rw [List.drop_zero, List.take_replicate, Nat.min_eq_left hn]
theorem zeros_pure (n : Nat) (h : n ≤ 18) : Pure Tryz.prog 90 [.str [48], i64 n] (fun o => o = .ret (.str (List.replicate n 48))) := by
  refine pure_of Tryz.func90 rfl 300 ?_
  conv => whnf
  refine branchI (fun h1 => ?_) (fun h1 => ?_)
  · have h1 : ((n : Int) == 0) = true := h1
    obtain rfl : n = 0 := by have := eq_of_beq h1; omega
    conv => whnf
    rfl
  conv => whnf
  refine branchI (fun h2 => ?_) (fun h2 => ?_)
  · have h2 : ((n : Int) == 1) = true := h2
    obtain rfl : n = 1 := by have := eq_of_beq h2; omega
    conv => whnf
    rfl
  conv => whnf
  refine callF1 (mul_pure 1 n (by omega) (by omega)) ?_ rfl ?_
  · show [V.int .u64 (IntKind.u64.wrap 1), V.int .u64 (IntKind.u64.wrap (n : Int))] = _
    rw [u64_in (x := (n : Int)) (by omega)]; rfl
  conv => whnf
  have hm : (1 * n % 18446744073709551616 : Nat) = n := by omega
  have hw : IntKind.i64.wrap ((1 * n % 18446744073709551616 : Nat) : Int) = (n : Int) := by rw [hm, w64_in (by omega)]
  refine branchF (decide_eq_false (by omega)) ?_
  conv => whnf
  refine branchF (decide_eq_false (by omega)) ?_
  conv => whnf
  refine branchT (decide_eq_true (by rw [hw]; omega)) ?_
  conv => whnf
  refine branchT (decide_eq_true (by rw [hw]; omega)) ?_
  conv => whnf
  refine branchT (decide_eq_true (by rw [hw]; omega)) ?_
  conv => whnf
  have hl := zeros64 (l := { data := #[48, 48, 48, 48, 48, 48, 48, 48, 48, 48, 48, 48, 48, 48, 48, 48, 48, 48, 48, 48, 48, 48, 48, 48, 48, 48, 48, 48, 48, 48, 48, 48, 48, 48, 48, 48, 48, 48, 48, 48, 48, 48, 48, 48, 48, 48, 48, 48, 48, 48, 48, 48, 48, 48, 48, 48, 48, 48, 48, 48, 48, 48, 48, 48] : ByteArray }.data.toList) (by decide)
  refine branchT (by rw [hw, hl.1]; simp; omega) ?_
  conv => whnf
  refine retS ?_
  rw [hw]
  exact hl.2 n (by omega)
end Go.Proofs.YtkhbmendaapojaaGreatDoor
/- A strings.Builder, as the program uses it; numbers told as texts. -/
namespace Go.Proofs.YtkhbmendaapojaaGreatDoor
open Go Go.Vx Go.Num Go.RowKit
set_option maxRecDepth 100000
set_option maxHeartbeats 1000000 in
theorem copyCheck_used (b : Nat) (w : World) (h0 : w.cell? ⟨b, 0, none⟩ = some (.pointer (some ⟨b, 0, none⟩))) :
    Calls Tryz.prog 112 #[.pointer (some ⟨b, 0, none⟩)] w fun e w' => e = .returned (.tuple #[]) ∧ w' = w := by
  obtain ⟨j, d, hj, _⟩ := (Tryz.tok.ok (t := 138) rfl).ex
  go_enter Tryz.func112, Tryz.ntmps112
  go_wp2
  rw [Lib.run_neq_ptr_same w _ Tryz.underlying136 hj]
  go_wp2
  go_end0
  exact ⟨rfl, rfl⟩
set_option maxHeartbeats 1000000 in
theorem copyCheck_fresh (b : Nat) (w : World) (h0 : w.cell? ⟨b, 0, none⟩ = some (.pointer none)) (hsh : w.shape? b = some (138, 2)) (hfz : w.frozen? ⟨b, 0, none⟩ = false) :
    Calls Tryz.prog 112 #[.pointer (some ⟨b, 0, none⟩)] w fun e w' => e = .returned (.tuple #[]) ∧ w' = w.setCell ⟨b, 0, none⟩ (.pointer (some ⟨b, 0, none⟩)) := by
  obtain ⟨j, d, hj, _, hjs, _⟩ := (Tryz.tok.ok (t := 138) rfl).ex
  have hjs : j.size = 2 := hjs
  go_enter Tryz.func112, Tryz.ntmps112
  go_wp2
  rw [Lib.run_to_unsafe w ⟨b, 0, none⟩ Tryz.underlying136 Tryz.underlying186 hj (by rw [hjs]; decide) hsh (Nat.zero_lt_succ 1)]
  simp only [Result.andThen]
  rw [Oper.upon_value]
  go_wp2
  rw [run_callFunc_extern Tryz.func135 (by kernel_rfl) (by kernel_rfl) (by kernel_rfl) (e := Extern.AbiNoEscape.same) (by kernel_rfl)]
  rw [Lib.run_noEscape]
  simp only [Result.andThen]
  rw [Oper.upon_value]
  go_wp2
  rw [Lib.run_from_unsafe w ⟨b, 0, none⟩ Tryz.underlying186 Tryz.underlying136 hj hsh (by kernel_rfl)]
  simp only [Result.andThen]
  rw [Oper.upon_value]
  go_wp2
  go_end0
  exact ⟨rfl, rfl⟩
theorem copyCheck_call {t : Nat} {p buf : V} {L : List Blk} {K : Out → List Blk → Prop} (hp : p = .nilPtr ∨ p = .ptr t 0 0) (hL : nth L t = some (.fix 138 [p, buf]))
    (hk : K (.ret (.tup [])) (L.set t (.fix 138 [.ptr t 0 0, buf]))) : CallV Tryz.prog 112 [.ptr t 0 0] L K := by
  intro ρ I w xs hM hxs
  rw [nth_eq] at hL
  obtain ⟨xl⟩ := xs
  cases hxs with | cons _ _ x xs hx hxs =>
  cases hxs
  cases hx with | ptr _ _ _ te hρ hi =>
  obtain ⟨o, ho, hB⟩ := hM.own t _ te hL rfl hρ
  obtain ⟨⟨arr, el, rfl, hnm, hsz, hcells⟩, hn1, ho0, arr', harr', hasz⟩ := hB
  cases harr'
  have hte0 : te.o + 0 * te.sz + 0 = 0 := by rw [ho0]; omega
  rw [hte0]
  obtain ⟨hl, hr⟩ := hcells 0 hi
  have hsz2 : te.sz = 2 := hl.symm
  rw [ho0, hsz2] at hr
  have harr : arr.toList.length = 2 := by rw [← hsz2, ← hasz]; simp
  obtain ⟨a0, a1, harr2⟩ : ∃ a0 a1, arr.toList = [a0, a1] := by
    match h : arr.toList, harr with
    | [x, y], _ => exact ⟨x, y, rfl⟩
  rw [harr2] at hr
  have hr' : Rels ρ I [p, buf] [a0, a1] := hr
  cases hr' with | cons _ _ _ _ hr0 hr1 =>
  cases hr1 with | cons _ _ _ _ hr1 _ =>
  have hc0 : w.cell? ⟨te.b, 0, none⟩ = some a0 := by
    have : arr[0]? = some a0 := by rw [← Array.getElem?_toList, harr2]; rfl
    simp [World.cell?, ho, this]
  have hL' : L.set t (.fix 138 [p, buf]) = L := by
    apply List.ext_getElem?
    intro k
    rw [List.getElem?_set]
    split
    · rename_i h; subst h
      split
      · exact hL.symm
      · rename_i h2; rw [List.getElem?_eq_none (by omega)]
    · rfl
  rcases hp with rfl | rfl
  · cases hr0
    refine (copyCheck_fresh te.b w hc0 (by simp only [World.shape?, ho]; rw [hasz, hsz2]) (by simp [World.frozen?, ho])).mono ?_
    rintro e w' ⟨rfl, rfl⟩
    have hheap : (w.setCell ⟨te.b, 0, none⟩ (.pointer (some ⟨te.b, 0, none⟩))).heap[te.b]? = some (.cells #[.pointer (some ⟨te.b, 0, none⟩), a1] 138 (0, 0)) := by
      have e1 : arr.setIfInBounds 0 (.pointer (some ⟨te.b, 0, none⟩)) = #[.pointer (some ⟨te.b, 0, none⟩), a1] := by
        apply Array.ext'
        rw [Array.toList_setIfInBounds, harr2]; rfl
      simp [World.setCell, Array.getElem?_modify, ho, e1]
    obtain ⟨m1, m2⟩ := hM.update (w' := w.setCell ⟨te.b, 0, none⟩ (.pointer (some ⟨te.b, 0, none⟩))) (blk' := .fix 138 [.ptr t 0 0, buf]) hL rfl hρ hheap
      ⟨⟨_, _, rfl, hnm, by rw [hasz] at hsz; rw [ho0, hsz2] at hsz ⊢; exact hsz, fun i hi' => by
        obtain rfl : i = 0 := by omega
        refine ⟨by rw [hsz2]; rfl, ?_⟩
        rw [ho0, hsz2]
        refine .cons _ _ _ _ ?_ (.cons _ _ _ _ hr1 .nil)
        have := Rel.ptr (ρ := ρ) (I := I) t 0 0 te hρ hi
        simpa [ho0] using this⟩, hn1, ho0, _, rfl, by rw [hsz2]; rfl⟩
      (fun k hk => Below.heap_setCell w _ _ k hk) (by simp) rfl rfl rfl
    exact ⟨.ret (.tup []), ρ, I, _, hk, .tup _ _ .nil, m1, m2⟩
  · cases hr0 with | ptr _ _ _ te' hρ' hi' =>
    rw [hρ] at hρ'
    cases hρ'
    rw [hte0] at hc0
    refine (copyCheck_used te.b w hc0).mono ?_
    rintro e w' ⟨rfl, rfl⟩
    rw [hL'] at hk
    exact ⟨.ret (.tup []), ρ, I, _, hk, .tup _ _ .nil, hM, Stp.refl _ _ _ _⟩
/-- What a builder's row holds. -/
def BytesAt (gi : Nat → Nat → Int) (l : List UInt8) : Prop := ∀ i, i < l.length → gi i 0 = byteAt l i
theorem bytesAt_eq : ∀ {l : List UInt8} {gi : Nat → Nat → Int} (o : Nat), (∀ i, i < l.length → gi (o + i) 0 = byteAt l i) → bytesAt (fun i => gi i 0) o l.length = l
  | [], _, _, _ => rfl
  | c :: l, gi, o, h => by
    rw [List.length_cons, bytesAt]
    have h0 := h 0 (by simp)
    congr 1
    · rw [Nat.add_zero] at h0
      rw [h0]
      show UInt8.ofNat c.toNat = c
      simp
    · refine bytesAt_eq (o + 1) fun i hi => ?_
      have := h (i + 1) (by simpa using hi)
      rw [show o + 1 + i = o + (i + 1) by omega, this]
      rfl
theorem byteAt_append_l {l m : List UInt8} {i : Nat} (h : i < l.length) : byteAt (l ++ m) i = byteAt l i := by
  unfold byteAt; rw [List.getD_eq_getElem?_getD, List.getD_eq_getElem?_getD, List.getElem?_append_left h]
theorem byteAt_append_r {l m : List UInt8} {i : Nat} (h : l.length ≤ i) : byteAt (l ++ m) i = byteAt m (i - l.length) := by
  unfold byteAt; rw [List.getD_eq_getElem?_getD, List.getD_eq_getElem?_getD, List.getElem?_append_right h]
theorem BytesAt.app {gi hi : Nat → Nat → Int} {l m : List UInt8} (h : BytesAt gi l) (k : BytesAt hi m) : BytesAt (appF l.length gi hi) (l ++ m) := by
  intro i hl
  rw [List.length_append] at hl
  by_cases hi' : i < l.length
  · rw [appF_lt hi', byteAt_append_l hi']; exact h i hi'
  · rw [appF_ge (by omega), byteAt_append_r (by omega)]; exact k _ (by omega)
/-- The groups below place k of a number, told in full. -/
theorem told_step (n k : Nat) : List.replicate (18 - (decN (dg 1000000000000000000 n k)).length) 48 ++ decN (dg 1000000000000000000 n k) = decD (n / 10 ^ (18 * k)) 18 := by
  have hd := dg_lt (b := 1000000000000000000) (by omega) n k
  have hl := decN_len_le (k := 18) (by omega) hd
  have e : dg 1000000000000000000 n k = n / 10 ^ (18 * k) % 10 ^ 18 := by unfold dg; rw [pow18]
  have h1 : decD (n / 10 ^ (18 * k)) 18 = decD (dg 1000000000000000000 n k) 18 := by rw [e, decD_mod]
  rw [h1]
  have h2 := decN_eq_decD (dg 1000000000000000000 n k)
  have h3 : dg 1000000000000000000 n k < 10 ^ (decN (dg 1000000000000000000 n k)).length := by
    have := (decD_valD (decN_isD (dg 1000000000000000000 n k))).2
    rwa [valD_decN] at this
  have h4 := decD_pad (dg 1000000000000000000 n k) (j := 18 - (decN (dg 1000000000000000000 n k)).length) h3
  rw [show 18 - (decN (dg 1000000000000000000 n k)).length + (decN (dg 1000000000000000000 n k)).length = 18 by omega, ← h2] at h4
  exact h4.symm
end Go.Proofs.YtkhbmendaapojaaGreatDoor
/- Numbers with a sign: Sum. -/
namespace Go.Proofs.YtkhbmendaapojaaGreatDoor
open Go Go.Vx Go.Num
set_option maxRecDepth 100000
attribute [local irreducible] CallV LoopV CodeV
abbrev numV (b : Bool) (n : Nat) : V := .agg [.bool b, massV n]
def valB (b : Bool) (n : Nat) : Int := if b then -(n : Int) else n
abbrev numZ (z : Int) : V := numV (decide (z < 0)) z.natAbs
theorem numZ_val {b : Bool} {n : Nat} (h : b = true → n ≠ 0) : numZ (valB b n) = numV b n := by
  cases b
  · have : valB false n = (n : Int) := rfl
    rw [numZ, this, decide_eq_false (by omega), Int.natAbs_natCast]
  · have h0 := h rfl
    have : valB true n = -(n : Int) := rfl
    rw [numZ, this, decide_eq_true (by omega), Int.natAbs_neg, Int.natAbs_natCast]
theorem sum1_pure (a b : Bool) (x y : Nat) (ha : a = true → x ≠ 0) (hb : b = true → y ≠ 0) (hx : nl 1000000000000000000 x < 1000000000) (hy : nl 1000000000000000000 y < 1000000000) (h : a = b ∨ y ≤ x) :
    Pure Tryz.prog 95 [numV a x, numV b y] (fun o => o = .ret (numZ (valB a x + valB b y))) := by
  refine pure_of Tryz.func95 rfl 300 ?_
  conv => whnf
  refine branchI (fun h1 => ?_) (fun h1 => ?_)
  · have h1 : (a == b) = true := h1
    obtain rfl : a = b := by simpa using h1
    conv => whnf
    refine ⟨_, _, callD (plus_pure x y hx hy) rfl (.inr rfl), ?_⟩
    conv => whnf
    have e : valB a x + valB a y = valB a (x + y) := by cases a <;> simp [valB] <;> omega
    rw [e, numZ_val (fun h => by have := ha h; omega)]
    rfl
  · have h1 : (a == b) = false := h1
    have hab : a ≠ b := by simpa using h1
    have hyx : y ≤ x := h.resolve_left hab
    conv => whnf
    refine callF1 (cmp_pure x y (by omega) (by omega)) rfl rfl ?_
    conv => whnf
    have hc : 0 ≤ cmpS x y := by
      unfold cmpS
      have := nl_mono (b := 1000000000000000000) (by omega) hyx
      split
      · omega
      · rw [if_neg (by omega)]; split <;> decide
    refine branchT (decide_eq_true hc) ?_
    conv => whnf
    refine callP1 (minus_pure x y hyx hx) rfl ?_
    conv => whnf
    have e : valB a x + valB b y = valB (a && decide (x - y ≠ 0)) (x - y) := by
      by_cases h0 : x - y = 0
      · have : x = y := by omega
        subst this
        cases a <;> cases b <;> simp_all [valB] <;> omega
      · cases a <;> cases b <;> simp_all [valB] <;> omega
    refine branchI (fun h2 => ?_) (fun h2 => ?_)
    · obtain rfl : a = true := h2
      conv => whnf
      rw [e, numZ_val (fun h => by simpa using h)]
      refine retV ?_
      show V.agg [.bool (decide ((0 : Int) < (nl 1000000000000000000 (x - y) : Int))), massV (x - y)] = _
      have : decide ((0 : Int) < (nl 1000000000000000000 (x - y) : Int)) = (true && decide (x - y ≠ 0)) := by
        rw [Bool.true_and]
        apply decide_eq_decide.2
        have := nl_eq_zero (b := 1000000000000000000) (by omega) (n := x - y)
        constructor
        · intro h h0; rw [this.2 h0] at h; exact absurd h (by decide)
        · intro h
          apply Classical.byContradiction; intro hc
          exact h (this.1 (by omega))
      rw [this]
    · obtain rfl : a = false := h2
      conv => whnf
      rw [e, numZ_val (fun h => by simp at h)]
      rfl
theorem sum_pure (a b : Bool) (x y : Nat) (ha : a = true → x ≠ 0) (hb : b = true → y ≠ 0) (hx : nl 1000000000000000000 x < 1000000000) (hy : nl 1000000000000000000 y < 1000000000) :
    Pure Tryz.prog 95 [numV a x, numV b y] (fun o => o = .ret (numZ (valB a x + valB b y))) := by
  by_cases h : a = b ∨ y ≤ x
  · exact sum1_pure a b x y ha hb hx hy h
  have hab : a ≠ b := fun hc => h (.inl hc)
  have hxy : ¬ y ≤ x := fun hc => h (.inr hc)
  refine pure_of Tryz.func95 rfl 300 ?_
  conv => whnf
  refine branchF (by simpa using hab) ?_
  conv => whnf
  refine callF1 (cmp_pure x y (by omega) (by omega)) rfl rfl ?_
  conv => whnf
  have hc : ¬ 0 ≤ cmpS x y := by
    unfold cmpS
    have := nl_mono (b := 1000000000000000000) (by omega) (show x ≤ y by omega)
    split
    · omega
    · rw [if_pos (by omega)]; decide
  refine branchF (decide_eq_false hc) ?_
  conv => whnf
  refine callP1 (sum1_pure b a y x hb ha hy hx (.inr (by omega))) rfl ?_
  conv => whnf
  rw [Int.add_comm]
  rfl
end Go.Proofs.YtkhbmendaapojaaGreatDoor
/- Numbers told as texts. -/
namespace Go.Proofs.YtkhbmendaapojaaGreatDoor
open Go Go.Vx Go.Num
set_option maxRecDepth 100000
attribute [local irreducible] CallV LoopV CodeV
def toldS (z : Int) : V := if 600 < (decN z.natAbs).length then .tup [.str [], i64 6] else .tup [.str (decZ z), i64 0]
theorem told_next {n k : Nat} (hk : k < nl 1000000000000000000 n) (h : k ≠ 0) : decN (n / 10 ^ (18 * k)) ++ (List.replicate (18 - (decN (dg 1000000000000000000 n (k - 1))).length) 48 ++ decN (dg 1000000000000000000 n (k - 1))) = decN (n / 10 ^ (18 * (k - 1))) := by
  rw [told_step]
  have e : n / 10 ^ (18 * k) = n / 10 ^ (18 * (k - 1)) / 10 ^ 18 := by
    rw [Nat.div_div_eq_div_mul, ← Nat.pow_add, show 18 * (k - 1) + 18 = 18 * k by omega]
  have hp : 10 ^ (18 * k) ≤ n := by rw [← pow18]; exact (nl_lt (by omega)).1 hk
  have h0 : n / 10 ^ (18 * k) ≠ 0 := by
    have := Nat.div_pos hp (Nat.pow_pos (by omega)); omega
  have h1 : n / 10 ^ (18 * (k - 1)) ≠ 0 := fun hc => h0 (by rw [e, hc])
  have h2 : 10 ^ 18 ≤ n / 10 ^ (18 * (k - 1)) := by
    apply Classical.byContradiction; intro hc
    exact h0 (by rw [e]; exact Nat.div_eq_of_lt (by omega))
  rw [e] at h0 ⊢
  generalize n / 10 ^ (18 * (k - 1)) = m at *
  rw [decN, if_neg h0, decN, if_neg h1, nl_div (by omega) h2, Nat.add_comm 18, decD_add]
theorem told_first {n : Nat} (h : n ≠ 0) : List.replicate (1 - (decN (dg 1000000000000000000 n (nl 1000000000000000000 n - 1))).length) 48 ++ decN (dg 1000000000000000000 n (nl 1000000000000000000 n - 1)) = decN (n / 10 ^ (18 * (nl 1000000000000000000 n - 1))) := by
  have : 0 < (decN (dg 1000000000000000000 n (nl 1000000000000000000 n - 1))).length := List.length_pos_iff.2 (decN_ne _)
  rw [show 1 - (decN (dg 1000000000000000000 n (nl 1000000000000000000 n - 1))).length = 0 by omega, top_dg h, pow18]
  rfl
structure TSt where
  k : Nat
  w : Nat
  st : Bool
  l : List UInt8
  gi : Nat → Nat → Int
  gb : Nat → Nat → Bool
  gs : Nat → Nat → List UInt8
theorem told_done (b : Bool) (n : Nat) : (bif b then [45] else []) ++ decN n = decZ (if b then -(n : Int) else n) ∨ n = 0 := by
  by_cases h : n = 0
  · exact .inr h
  · left
    cases b
    · simp [decZ]
    · simp [decZ]; omega
theorem BytesAt.app' {gi : Nat → Nat → Int} {l : List UInt8} (h : BytesAt gi l) (m : List UInt8) : BytesAt (appF l.length (fun i => gi (0 + i)) (fun i _ => byteAt m i)) (l ++ m) :=
  BytesAt.app (gi := fun i => gi (0 + i)) (fun i hi => by show gi (0 + i) 0 = _; rw [Nat.zero_add]; exact h i hi) fun i _ => rfl
theorem decZ_ne (z : Int) : decZ z ≠ [] := by
  unfold decZ; split
  · exact List.cons_ne_nil _ _
  · exact decN_ne _
theorem told_pure (b : Bool) (n : Nat) (hb : b = true → n ≠ 0) (hn : nl 1000000000000000000 n < 100000000) : Pure Tryz.prog 66 [numV b n] (fun o => o = .ret (toldS (if b then -(n : Int) else n))) := by
  refine pure_of Tryz.func66 rfl 300 ?_
  conv => whnf
  refine callF1 (digits_pure n hn) rfl rfl ?_
  conv => whnf
  have hz : (if b then -(n : Int) else n).natAbs = n := by cases b <;> simp
  refine branchI (fun h1 => ?_) (fun h1 => ?_)
  · have h1 : decide ((600 : Int) < ((decN n).length : Int)) = true := h1
    conv => whnf
    refine retV ?_
    unfold toldS
    rw [hz, if_pos (by have := of_decide_eq_true h1; omega)]
    rfl
  have h1 : decide ((600 : Int) < ((decN n).length : Int)) = false := h1
  conv => whnf
  refine branchI (fun h2 => ?_) (fun h2 => ?_)
  · conv => whnf
    obtain rfl : b = true := h2
    refine copyCheck_call (.inl rfl) rfl ?_
    conv => whnf
    refine branchF (by simp [nl_eq_zero (b := 1000000000000000000) (by omega), hb]) ?_
    conv => whnf
    have h0 : n ≠ 0 := hb rfl
    have hs : nl 1000000000000000000 n ≤ 40 := by have := of_decide_eq_false h1; have := len18 h0; omega
    refine loop_inv Tryz.eok 280 (fun s : TSt => s.k ≤ nl 1000000000000000000 n ∧ BytesAt s.gi s.l ∧ s.l.length + 18 * s.k < 1000000 ∧ ((s.k = nl 1000000000000000000 n ∧ s.w = 1 ∧ s.l = [45]) ∨ (s.k < nl 1000000000000000000 n ∧ s.w = 18 ∧ s.st = true ∧ s.l = [45] ++ decN (n / 10 ^ (18 * s.k))))) (fun s => s.k)
      (fun s => slots [(0, numV true n), (1, .ptr 0 0 0), (4, .ptr 1 0 0), (5, .fn (.func 87) [.ptr 1 0 0]), (6, i64 ((s.k : Int) - 1)), (7, i64 s.w)] 0 39)
      (fun s => [.fix 106 [.bool true, massV n], .fix 138 [.ptr 1 0 0, .sl 4 1 0 s.l.length s.l.length], .dead, .dead, .arr 5 [.int .u8] s.gi s.gb s.gs])
      ⟨nl 1000000000000000000 n, 1, true, [45], ?gi0, ?gb0, ?gs0⟩ [3] ?inv0 ?ls0 rfl ?_
    case ls0 =>
      repeat' constructor
      all_goals first | exact rfl | exact w64_in (by omega)
    case inv0 =>
      refine ⟨Nat.le_refl _, fun i hi => ?_, by show 1 + 18 * nl 1000000000000000000 n < _; omega, .inl ⟨rfl, rfl, rfl⟩⟩
      obtain rfl : i = 0 := by have : i < 1 := hi; omega
      rfl
    rintro ⟨k, w, st, l, gi, gb, gs⟩ ⟨hk, hB, hlen, hI⟩
    have hk : k ≤ nl 1000000000000000000 n := hk
    have hB : BytesAt gi l := hB
    have hlen : l.length + 18 * k < 1000000 := hlen
    have hI : (k = nl 1000000000000000000 n ∧ w = 1 ∧ l = [45]) ∨ (k < nl 1000000000000000000 n ∧ w = 18 ∧ st = true ∧ l = [45] ++ decN (n / 10 ^ (18 * k))) := hI
    have hw : w ≤ 18 := by omega
    have hd := dg_lt (b := 1000000000000000000) (by omega) n (k - 1)
    have hdl := decN_len_le (k := 18) (by omega) hd
    conv => whnf
    refine branchI (fun h4 => ?_) (fun h4 => ?_)
    · simp at h4
      have hnx : ([45] : List UInt8) ++ decN (n / 10 ^ (18 * (k - 1))) = l ++ (List.replicate (w - (decN (dg 1000000000000000000 n (k - 1))).length) 48 ++ decN (dg 1000000000000000000 n (k - 1))) := by
        rcases hI with ⟨h5, h6, h7⟩ | ⟨h5, h6, -, h7⟩
        · rw [h7, h6, h5, told_first h0]
        · rw [h7, h6, List.append_assoc, told_next h5 (by omega)]
      have hw1 : ((k : Int) - 1) = ((k - 1 : Nat) : Int) := by omega
      conv => whnf
      refine branchT (by rw [hw1]; exact guardI (by omega)) ?_
      conv => whnf
      refine callF1 (v := .str (decN (dg 1000000000000000000 n (k - 1)))) (fmt_pure _ hd) ?_ rfl ?_
      · show [V.int .u64 ((dg 1000000000000000000 n ((k : Int) - 1).toNat : Nat) : Int), i64 10] = _
        rw [hw1]; rfl
      conv => whnf
      refine callF1 (zeros_pure (w - (decN (dg 1000000000000000000 n (k - 1))).length) (by omega)) ?_ rfl ?_
      · refine (congrArg (fun z => [V.str [48], V.int .i64 z]) ?_ : [V.str [48], V.int .i64 _] = _)
        show (if IntKind.i64.wrap ((w : Int) - ((decN (dg 1000000000000000000 n (k - 1))).length : Int)) < 0 then 0 else IntKind.i64.wrap ((w : Int) - ((decN (dg 1000000000000000000 n (k - 1))).length : Int))) = _
        rw [w64_in (by omega)]
        split <;> omega
      conv => whnf
      have hml : (List.replicate (w - (decN (dg 1000000000000000000 n (k - 1))).length) 48 ++ decN (dg 1000000000000000000 n (k - 1))).length ≤ 18 := by rw [List.length_append, List.length_replicate]; omega
      refine branchT (decide_eq_true (by rw [← List.length_append]; omega)) ?_
      conv => whnf
      refine copyCheck_call (t := 1) (p := .ptr 1 0 0) (.inr rfl) rfl ?_
      conv => whnf
      refine branchT (fits_ok (by decide) (by show l.length + (List.replicate (w - (decN (dg 1000000000000000000 n (k - 1))).length) 48 ++ decN (dg 1000000000000000000 n (k - 1))).length ≤ _; omega)) ?_
      conv => whnf
      refine ⟨rfl, ⟨k - 1, 18, true, l ++ (List.replicate (w - (decN (dg 1000000000000000000 n (k - 1))).length) 48 ++ decN (dg 1000000000000000000 n (k - 1))), ?gi1, ?gb1, ?gs1⟩, [5], ?inv1, ?mu1, rfl, ?ls1⟩
      case ls1 =>
        repeat' constructor
        all_goals first | exact rfl | exact List.length_append | exact List.length_append.symm | exact Nat.le_of_eq List.length_append | (show IntKind.i64.wrap ((k : Int) - 1 - 1) = ((k - 1 : Nat) : Int) - 1; rw [w64_in (by omega)]; omega) | skip
      case mu1 => show k - 1 < k; omega
      case inv1 =>
        refine ⟨by show k - 1 ≤ nl _ n; omega, hB.app' _, by show (l ++ (List.replicate (w - (decN (dg 1000000000000000000 n (k - 1))).length) 48 ++ decN (dg 1000000000000000000 n (k - 1)))).length + 18 * (k - 1) < _; rw [List.length_append]; omega, .inr ⟨by show k - 1 < nl _ n; omega, rfl, rfl, hnx.symm⟩⟩
    · simp at h4
      obtain rfl : k = 0 := by omega
      have hl : l = decZ (if true = true then -(n : Int) else n) := by
        rcases hI with ⟨h5, -⟩ | ⟨-, -, -, h7⟩
        · exact absurd ((nl_eq_zero (by omega)).1 h5.symm) h0
        · rw [h7, show n / 10 ^ (18 * 0) = n by simp]
          exact (told_done true n).resolve_right h0
      conv => whnf
      have hl0 : 0 < l.length := by rw [hl]; exact List.length_pos_iff.2 (decZ_ne _)
      refine branchT (decide_eq_true hl0) ?_
      conv => whnf
      refine branchT (by rw [Bool.and_eq_true]; exact ⟨decide_eq_true rfl, decide_eq_true (by show l.length ≤ _; omega)⟩) ?_
      conv => whnf
      refine retV ?_
      unfold toldS
      rw [hz, if_neg (by have := of_decide_eq_false h1; omega), ← hl]
      refine (congrArg (fun z => V.tup [V.str z, i64 0]) ?_ : V.tup [V.str _, i64 0] = _)
      exact bytesAt_eq (gi := fun i c => gi (0 + i) c) 0 fun i hi => by
        show gi (0 + (0 + i)) 0 = _
        rw [Nat.zero_add, Nat.zero_add]; exact hB i hi
  · obtain rfl : b = false := h2
    conv => whnf
    refine branchI (fun h3 => ?_) (fun h3 => ?_)
    · have h3 : ((nl 1000000000000000000 n : Int) == 0) = true := h3
      obtain rfl : n = 0 := (nl_eq_zero (b := 1000000000000000000) (by omega)).1 (by have := eq_of_beq h3; omega)
      conv => whnf
      refine callF1 (fmt_pure 0 (by omega)) rfl rfl ?_
      conv => whnf
      refine callF1 (zeros_pure 0 (by omega)) rfl rfl ?_
      conv => whnf
      refine copyCheck_call (.inl rfl) rfl ?_
      conv => whnf
      refine loop_unroll Tryz.eok 280 2 ?_
      conv => whnf
      rfl
    · have h3 : ((nl 1000000000000000000 n : Int) == 0) = false := h3
      have h0 : n ≠ 0 := fun hc => by rw [hc] at h3; exact absurd h3 (by decide)
      have hs : nl 1000000000000000000 n ≤ 40 := by have := of_decide_eq_false h1; have := len18 h0; omega
      conv => whnf
      refine loop_inv Tryz.eok 280 (fun s : TSt => s.k ≤ nl 1000000000000000000 n ∧ BytesAt s.gi s.l ∧ s.l.length + 18 * s.k < 1000000 ∧ ((s.k = nl 1000000000000000000 n ∧ s.w = 1 ∧ s.l = []) ∨ (s.k < nl 1000000000000000000 n ∧ s.w = 18 ∧ s.st = true ∧ s.l = decN (n / 10 ^ (18 * s.k))))) (fun s => s.k)
        (fun s => slots [(0, numV false n), (1, .ptr 0 0 0), (4, .ptr 1 0 0), (5, .fn (.func 87) [.ptr 1 0 0]), (6, i64 ((s.k : Int) - 1)), (7, i64 s.w)] 0 39)
        (fun s => [.fix 106 [.bool false, massV n], .fix 138 [bif s.st then .ptr 1 0 0 else .nilPtr, .sl 2 1 0 s.l.length s.l.length], .arr 5 [.int .u8] s.gi s.gb s.gs])
        ⟨nl 1000000000000000000 n, 1, false, [], fun _ _ => 0, fun _ _ => false, fun _ _ => []⟩ [1000000] ?inv9 ?ls9 rfl ?_
      case ls9 =>
        repeat' constructor
        all_goals first | exact rfl | exact w64_in (by omega) | skip
      case inv9 =>
        exact ⟨Nat.le_refl _, fun i hi => absurd hi (Nat.not_lt_zero i), by show 0 + 18 * nl 1000000000000000000 n < _; omega, .inl ⟨rfl, rfl, rfl⟩⟩
      rintro ⟨k, w, st, l, gi, gb, gs⟩ ⟨hk, hB, hlen, hI⟩
      have hk : k ≤ nl 1000000000000000000 n := hk
      have hB : BytesAt gi l := hB
      have hlen : l.length + 18 * k < 1000000 := hlen
      have hI : (k = nl 1000000000000000000 n ∧ w = 1 ∧ l = []) ∨ (k < nl 1000000000000000000 n ∧ w = 18 ∧ st = true ∧ l = decN (n / 10 ^ (18 * k))) := hI
      have hw : w ≤ 18 := by omega
      have hd := dg_lt (b := 1000000000000000000) (by omega) n (k - 1)
      have hdl := decN_len_le (k := 18) (by omega) hd
      cases st
      · conv => whnf
        refine branchI (fun h4 => ?_) (fun h4 => ?_)
        · simp at h4
          have hnx : decN (n / 10 ^ (18 * (k - 1))) = l ++ (List.replicate (w - (decN (dg 1000000000000000000 n (k - 1))).length) 48 ++ decN (dg 1000000000000000000 n (k - 1))) := by
            rcases hI with ⟨h5, h6, h7⟩ | ⟨h5, h6, -, h7⟩
            · rw [h7, h6, h5, told_first h0, List.nil_append]
            · rw [h7, h6, told_next h5 (by omega)]
          have hw1 : ((k : Int) - 1) = ((k - 1 : Nat) : Int) := by omega
          conv => whnf
          refine branchT (by rw [hw1]; exact guardI (by omega)) ?_
          conv => whnf
          refine callF1 (v := .str (decN (dg 1000000000000000000 n (k - 1)))) (fmt_pure _ hd) ?_ rfl ?_
          · show [V.int .u64 ((dg 1000000000000000000 n ((k : Int) - 1).toNat : Nat) : Int), i64 10] = _
            rw [hw1]; rfl
          conv => whnf
          refine callF1 (zeros_pure (w - (decN (dg 1000000000000000000 n (k - 1))).length) (by omega)) ?_ rfl ?_
          · refine (congrArg (fun z => [V.str [48], V.int .i64 z]) ?_ : [V.str [48], V.int .i64 _] = _)
            show (if IntKind.i64.wrap ((w : Int) - ((decN (dg 1000000000000000000 n (k - 1))).length : Int)) < 0 then 0 else IntKind.i64.wrap ((w : Int) - ((decN (dg 1000000000000000000 n (k - 1))).length : Int))) = _
            rw [w64_in (by omega)]
            split <;> omega
          conv => whnf
          have hml : (List.replicate (w - (decN (dg 1000000000000000000 n (k - 1))).length) 48 ++ decN (dg 1000000000000000000 n (k - 1))).length ≤ 18 := by rw [List.length_append, List.length_replicate]; omega
          refine branchT (decide_eq_true (by rw [← List.length_append]; omega)) ?_
          conv => whnf
          refine copyCheck_call (t := 1) (p := .nilPtr) (.inl rfl) rfl ?_
          conv => whnf
          refine branchT (fits_ok (by decide) (by show l.length + (List.replicate (w - (decN (dg 1000000000000000000 n (k - 1))).length) 48 ++ decN (dg 1000000000000000000 n (k - 1))).length ≤ _; omega)) ?_
          conv => whnf
          refine ⟨rfl, ⟨k - 1, 18, true, l ++ (List.replicate (w - (decN (dg 1000000000000000000 n (k - 1))).length) 48 ++ decN (dg 1000000000000000000 n (k - 1))), ?gi2, ?gb2, ?gs2⟩, [3], ?inv2, ?mu2, rfl, ?ls2⟩
          case ls2 =>
            repeat' constructor
            all_goals first | exact rfl | exact List.length_append | exact List.length_append.symm | exact Nat.le_of_eq List.length_append | (show IntKind.i64.wrap ((k : Int) - 1 - 1) = ((k - 1 : Nat) : Int) - 1; rw [w64_in (by omega)]; omega) | skip
          case mu2 => show k - 1 < k; omega
          case inv2 =>
            refine ⟨by show k - 1 ≤ nl _ n; omega, hB.app' _, by show (l ++ (List.replicate (w - (decN (dg 1000000000000000000 n (k - 1))).length) 48 ++ decN (dg 1000000000000000000 n (k - 1)))).length + 18 * (k - 1) < _; rw [List.length_append]; omega, .inr ⟨by show k - 1 < nl _ n; omega, rfl, rfl, hnx.symm⟩⟩
        · simp at h4
          obtain rfl : k = 0 := by omega
          have hl : l = decZ (if false = true then -(n : Int) else n) := by
            rcases hI with ⟨h5, -⟩ | ⟨-, -, -, h7⟩
            · exact absurd ((nl_eq_zero (by omega)).1 h5.symm) h0
            · rw [h7, show n / 10 ^ (18 * 0) = n by simp]
              exact (told_done false n).resolve_right h0
          conv => whnf
          have hl0 : 0 < l.length := by rw [hl]; exact List.length_pos_iff.2 (decZ_ne _)
          refine branchT (decide_eq_true hl0) ?_
          conv => whnf
          refine branchT (by rw [Bool.and_eq_true]; exact ⟨decide_eq_true rfl, decide_eq_true (by show l.length ≤ _; omega)⟩) ?_
          conv => whnf
          refine retV ?_
          unfold toldS
          rw [hz, if_neg (by have := of_decide_eq_false h1; omega), ← hl]
          refine (congrArg (fun z => V.tup [V.str z, i64 0]) ?_ : V.tup [V.str _, i64 0] = _)
          exact bytesAt_eq (gi := fun i c => gi (0 + i) c) 0 fun i hi => by
            show gi (0 + (0 + i)) 0 = _
            rw [Nat.zero_add, Nat.zero_add]; exact hB i hi
      · conv => whnf
        refine branchI (fun h4 => ?_) (fun h4 => ?_)
        · simp at h4
          have hnx : decN (n / 10 ^ (18 * (k - 1))) = l ++ (List.replicate (w - (decN (dg 1000000000000000000 n (k - 1))).length) 48 ++ decN (dg 1000000000000000000 n (k - 1))) := by
            rcases hI with ⟨h5, h6, h7⟩ | ⟨h5, h6, -, h7⟩
            · rw [h7, h6, h5, told_first h0, List.nil_append]
            · rw [h7, h6, told_next h5 (by omega)]
          have hw1 : ((k : Int) - 1) = ((k - 1 : Nat) : Int) := by omega
          conv => whnf
          refine branchT (by rw [hw1]; exact guardI (by omega)) ?_
          conv => whnf
          refine callF1 (v := .str (decN (dg 1000000000000000000 n (k - 1)))) (fmt_pure _ hd) ?_ rfl ?_
          · show [V.int .u64 ((dg 1000000000000000000 n ((k : Int) - 1).toNat : Nat) : Int), i64 10] = _
            rw [hw1]; rfl
          conv => whnf
          refine callF1 (zeros_pure (w - (decN (dg 1000000000000000000 n (k - 1))).length) (by omega)) ?_ rfl ?_
          · refine (congrArg (fun z => [V.str [48], V.int .i64 z]) ?_ : [V.str [48], V.int .i64 _] = _)
            show (if IntKind.i64.wrap ((w : Int) - ((decN (dg 1000000000000000000 n (k - 1))).length : Int)) < 0 then 0 else IntKind.i64.wrap ((w : Int) - ((decN (dg 1000000000000000000 n (k - 1))).length : Int))) = _
            rw [w64_in (by omega)]
            split <;> omega
          conv => whnf
          have hml : (List.replicate (w - (decN (dg 1000000000000000000 n (k - 1))).length) 48 ++ decN (dg 1000000000000000000 n (k - 1))).length ≤ 18 := by rw [List.length_append, List.length_replicate]; omega
          refine branchT (decide_eq_true (by rw [← List.length_append]; omega)) ?_
          conv => whnf
          refine copyCheck_call (t := 1) (p := .ptr 1 0 0) (.inr rfl) rfl ?_
          conv => whnf
          refine branchT (fits_ok (by decide) (by show l.length + (List.replicate (w - (decN (dg 1000000000000000000 n (k - 1))).length) 48 ++ decN (dg 1000000000000000000 n (k - 1))).length ≤ _; omega)) ?_
          conv => whnf
          refine ⟨rfl, ⟨k - 1, 18, true, l ++ (List.replicate (w - (decN (dg 1000000000000000000 n (k - 1))).length) 48 ++ decN (dg 1000000000000000000 n (k - 1))), ?gi3, ?gb3, ?gs3⟩, [3], ?inv3, ?mu3, rfl, ?ls3⟩
          case ls3 =>
            repeat' constructor
            all_goals first | exact rfl | exact List.length_append | exact List.length_append.symm | exact Nat.le_of_eq List.length_append | (show IntKind.i64.wrap ((k : Int) - 1 - 1) = ((k - 1 : Nat) : Int) - 1; rw [w64_in (by omega)]; omega) | skip
          case mu3 => show k - 1 < k; omega
          case inv3 =>
            refine ⟨by show k - 1 ≤ nl _ n; omega, hB.app' _, by show (l ++ (List.replicate (w - (decN (dg 1000000000000000000 n (k - 1))).length) 48 ++ decN (dg 1000000000000000000 n (k - 1)))).length + 18 * (k - 1) < _; rw [List.length_append]; omega, .inr ⟨by show k - 1 < nl _ n; omega, rfl, rfl, hnx.symm⟩⟩
        · simp at h4
          obtain rfl : k = 0 := by omega
          have hl : l = decZ (if false = true then -(n : Int) else n) := by
            rcases hI with ⟨h5, -⟩ | ⟨-, -, -, h7⟩
            · exact absurd ((nl_eq_zero (by omega)).1 h5.symm) h0
            · rw [h7, show n / 10 ^ (18 * 0) = n by simp]
              exact (told_done false n).resolve_right h0
          conv => whnf
          have hl0 : 0 < l.length := by rw [hl]; exact List.length_pos_iff.2 (decZ_ne _)
          refine branchT (decide_eq_true hl0) ?_
          conv => whnf
          refine branchT (by rw [Bool.and_eq_true]; exact ⟨decide_eq_true rfl, decide_eq_true (by show l.length ≤ _; omega)⟩) ?_
          conv => whnf
          refine retV ?_
          unfold toldS
          rw [hz, if_neg (by have := of_decide_eq_false h1; omega), ← hl]
          refine (congrArg (fun z => V.tup [V.str z, i64 0]) ?_ : V.tup [V.str _, i64 0] = _)
          exact bytesAt_eq (gi := fun i c => gi (0 + i) c) 0 fun i hi => by
            show gi (0 + (0 + i)) 0 = _
            rw [Nat.zero_add, Nat.zero_add]; exact hB i hi
end Go.Proofs.YtkhbmendaapojaaGreatDoor
/- Integers as numbers, and as texts. -/
namespace Go.Proofs.YtkhbmendaapojaaGreatDoor
open Go Go.Vx Go.Num
set_option maxRecDepth 100000
attribute [local irreducible] CallV LoopV CodeV
theorem u64_neg {z : Int} (h : -18446744073709551616 ≤ z ∧ z < 0) : IntKind.u64.wrap z = z + 18446744073709551616 := by
  show z % 18446744073709551616 = _
  omega
theorem two18 {m : Nat} {a : Int} (h : m < 18446744073709551616) (ha : a = (m : Int)) : ∀ i, i < 2 → (match i with | 0 => a.tmod 1000000000000000000 | _ => IntKind.u64.wrap (a.tdiv 1000000000000000000)) = ((dg 1000000000000000000 m i : Nat) : Int) := by
  subst ha
  intro i hi
  match i, hi with
  | 0, _ =>
    show ((m : Int)).tmod 1000000000000000000 = _
    rw [Int.tmod_eq_emod_of_nonneg (by omega)]; simp [dg]
  | 1, _ =>
    show IntKind.u64.wrap (((m : Int)).tdiv 1000000000000000000) = _
    rw [Int.tdiv_eq_ediv_of_nonneg (by omega), u64_in (by omega)]
    have : m / 1000000000000000000 % 1000000000000000000 = m / 1000000000000000000 := by omega
    simp only [dg, Nat.pow_one, this]
    omega
theorem from_pure (z : Int) (hz : -9223372036854775808 ≤ z ∧ z ≤ 9223372036854775807) : Pure Tryz.prog 65 [i64 z] (fun o => o = .ret (numV (decide (z < 0)) z.natAbs)) := by
  refine pure_of Tryz.func65 rfl 300 ?_
  have hlt : z.natAbs < 1000000000000000000 ^ 2 := by omega
  have hm : z.natAbs < 18446744073709551616 := by omega
  conv => whnf
  refine branchI (fun h1 => ?_) (fun h1 => ?_)
  · have h1 : decide (z < 0) = true := h1
    have h1' := of_decide_eq_true h1
    have hw : IntKind.u64.wrap (0 - IntKind.u64.wrap z) = (z.natAbs : Int) := by rw [u64_neg (z := z) (by omega), u64_neg (by omega)]; omega
    conv => whnf
    refine callP1 ((trim_mass (n := z.natAbs) (k := 2) rfl hlt (by decide) rfl).args (.cons (.ro ?h) .nil)) rfl ?_
    case h =>
      intro i hi
      have := two18 hm hw i hi
      match i, hi, this with
      | 0, _, this => exact congrArg (fun n => [V.int .u64 n]) this
      | 1, _, this => exact congrArg (fun n => [V.int .u64 n]) this
    conv => whnf
    rfl
  · have h1 : decide (z < 0) = false := h1
    have h1' := of_decide_eq_false h1
    have hw : IntKind.u64.wrap z = (z.natAbs : Int) := by rw [u64_in (by omega)]; omega
    conv => whnf
    refine callP1 ((trim_mass (n := z.natAbs) (k := 2) rfl hlt (by decide) rfl).args (.cons (.ro ?h2) .nil)) rfl ?_
    case h2 =>
      intro i hi
      have := two18 hm hw i hi
      match i, hi, this with
      | 0, _, this => exact congrArg (fun n => [V.int .u64 n]) this
      | 1, _, this => exact congrArg (fun n => [V.int .u64 n]) this
    conv => whnf
    rfl
theorem nl18_le {n : Nat} (h : n < 1000000000000000000 ^ 2) : nl 1000000000000000000 n ≤ 2 := (nl_le (by omega)).2 h
theorem decN_le' {n k : Nat} (hk : 0 < k) (h : n < 10 ^ k) : (decN n).length ≤ k := decN_len_le hk h
theorem zsign (z : Int) : (if decide (z < 0) then -(z.natAbs : Int) else z.natAbs) = z := by
  by_cases h : z < 0
  · rw [decide_eq_true h]; simp; omega
  · rw [decide_eq_false h]; simp; omega
theorem of_pure (z : Int) (hz : -9223372036854775808 ≤ z ∧ z ≤ 9223372036854775807) : Pure Tryz.prog 39 [i64 z] (fun o => o = .ret (.str (decZ z))) := by
  refine pure_of Tryz.func39 rfl 300 ?_
  have hlt : z.natAbs < 1000000000000000000 ^ 2 := by omega
  have hn := nl18_le hlt
  have hl : (decN z.natAbs).length ≤ 40 := decN_len_le (by omega) (by omega)
  conv => whnf
  refine callP1 (from_pure z hz) rfl ?_
  conv => whnf
  refine callF1 (v := .tup [.str (decZ z), i64 0]) ?_ rfl rfl ?_
  · have := told_pure (decide (z < 0)) z.natAbs (by simp; omega) (by omega)
    rw [zsign] at this
    unfold toldS at this
    rwa [if_neg (by omega)] at this
  conv => whnf
  rfl
end Go.Proofs.YtkhbmendaapojaaGreatDoor
