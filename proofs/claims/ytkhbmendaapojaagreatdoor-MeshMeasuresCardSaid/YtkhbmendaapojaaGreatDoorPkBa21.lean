/- Decimal texts read and told by the library: contracts of the kit's shelf, in this proof's form. Decimal texts of the library: numbers as texts. -/
import Derived.Test.YtkhbmendaapojaaGreatDoorPkBa19
import Derived.Test.YtkhbmendaapojaaGreatDoorPkBa20
import Derived.Shelf.Strconv.ParseUint10b64
import Derived.Shelf.Strconv.Itoa3
import Derived.Lib.AtoiErrMem
import Derived.Lib.AppendIntMem
set_option linter.unusedSimpArgs false
set_option linter.unusedVariables false
/- Decimal texts read and told by the library: contracts of the kit's shelf, in this proof's form. -/
namespace Go.Proofs.YtkhbmendaapojaaGreatDoor
open Go Go.Vx Go.Num Go.RowKit
set_option maxRecDepth 100000
attribute [local irreducible] CallV LoopV CodeV
theorem pure_of_calls {P : Program} {f : Nat} {Vs : List V} {v : V}
    (h : ∀ I w (xs : Array Value), GlobOk I → ImmOk I w → Rels [] I Vs xs.toList → Calls P f xs w fun e w' => ∃ x, e = .returned x ∧ (∀ I, Rel [] I v x) ∧ Below w.heap.size w w') : Pure P f Vs (fun o => o = .ret v) := by
  intro I w xs h0 h1 h2
  refine (h I w xs h0 h1 h2).mono ?_
  rintro e w' ⟨x, rfl, hx, hb⟩
  refine ⟨.ret v, I, rfl, hx I, ?_, Imm.le_refl _, fun b ob h => .inl h, hb⟩
  intro b o hbo
  have hw := h1 b o hbo
  have : b < w.heap.size := by
    apply Classical.byContradiction; intro hc
    rw [Array.getElem?_eq_none (by omega)] at hw; cases hw
  rw [hb.block b this]; exact hw
theorem parse_dig : ∀ (l : List UInt8) (acc : Nat), (∀ c ∈ l, isD c = true) → acc < 10 ^ (18 - l.length) → l.length ≤ 18 → Lib.parseUint10 acc l = .ok (l.foldl (fun a c => a * 10 + (c.toNat - 48)) acc)
  | [], acc, _, _, _ => rfl
  | c :: r, acc, hd, ha, hl => by
    have hc := hd c (by simp)
    unfold isD at hc
    simp only [Bool.and_eq_true, decide_eq_true_eq] at hc
    have hr : r.length + 1 ≤ 18 := hl
    have e : 10 ^ (18 - r.length) = 10 ^ (18 - (c :: r).length) * 10 := by
      rw [← Nat.pow_succ, List.length_cons]; congr 1; omega
    have hle : 10 ^ (18 - (c :: r).length) ≤ 10 ^ 17 := Nat.pow_le_pow_right (by omega) (by rw [List.length_cons]; omega)
    have h17 : (10 : Nat) ^ 17 = 100000000000000000 := by decide
    rw [Lib.parseUint10, if_pos hc, if_neg (by omega), if_neg (by omega), List.foldl_cons]
    exact parse_dig r _ (fun d h => hd d (by simp [h])) (by rw [e]; omega) (by omega)
theorem iparse_pure (l : List UInt8) (hne : l ≠ []) (hl : l.length ≤ 18) (hd : ∀ c ∈ l, isD c = true) : Pure Tryz.prog 108 [.str l, i64 10, i64 64] (fun o => o = .ret (.tup [u64 (valD l), .nilIface])) := by
  refine pure_of_calls ?_
  intro I w xs _ _ hx
  obtain ⟨xl⟩ := xs
  cases hx with | cons _ _ x xs hx hxs =>
  cases hxs with | cons _ _ y ys hy hys =>
  cases hys with | cons _ _ z zs hz hzs =>
  cases hzs; cases hz; cases hy
  cases hx with | str s _ hs =>
  have hsz : s.size = l.length := by rw [← hs]; rfl
  refine (Any.internal_strconv_ParseUint_10_b64 Tryz.lays287 s (by rw [hsz]; have := List.length_pos_iff.2 hne; omega) (by omega) w).mono ?_
  rintro e w' ⟨rfl, rfl⟩
  rw [hs, parse_dig l 0 hd (Nat.pow_pos (by omega)) hl]
  exact ⟨_, rfl, fun I => .tup _ _ (.cons _ _ _ _ (.int _ _) (.cons _ _ _ _ .nilIface .nil)), Lib.bytesWorld_below _ _ _⟩
theorem parse_pure (l : List UInt8) (hne : l ≠ []) (hl : l.length ≤ 18) (hd : ∀ c ∈ l, isD c = true) : Pure Tryz.prog 120 [.str l, i64 10, i64 64] (fun o => o = .ret (.tup [u64 (valD l), .nilIface])) := by
  refine pure_of Tryz.func120 rfl 100 ?_
  conv => whnf
  refine callF1 (iparse_pure l hne hl hd) rfl rfl ?_
  conv => whnf
  rfl
theorem decDigits_eq (n : Nat) : Lib.decDigits n = decN n := by
  induction n using Nat.strongRecOn with
  | _ n ih =>
    rw [Lib.decDigits]
    by_cases h : n < 10
    · rw [dif_pos h]
      unfold decN
      by_cases h0 : n = 0
      · subst h0; rfl
      · rw [if_neg h0, show nl 10 n = 1 by have := nl_pos (b := 10) (by omega) h0; have := (nl_le (b := 10) (k := 1) (n := n) (by omega)).2 (by omega); omega]
        show _ = [dch (dg 10 n 0)]
        rw [show dg 10 n 0 = n by simp [dg]; omega]; rfl
    · rw [dif_neg h, ih (n / 10) (by omega), decN, if_neg (by omega), decN, if_neg (by omega), nl_div (b := 10) (k := 1) (by omega) (n := n) (by omega), Nat.add_comm 1, decD_add, Nat.pow_one]
      show _ = _ ++ [dch (dg 10 n 0)]
      rw [show dg 10 n 0 = n % 10 by simp [dg]]; rfl
theorem itoa_eq (z : Int) : Lib.itoa z = decZ z := by
  unfold Lib.itoa decZ
  split
  · rw [decDigits_eq]
  · rw [decDigits_eq, show z.toNat = z.natAbs by omega]
theorem itoa_pure (z : Int) (hz : -9223372036854775808 ≤ z ∧ z ≤ 9223372036854775807) : Pure Tryz.prog 30 [i64 z] (fun o => o = .ret (.str (decZ z))) := by
  refine pure_of_calls ?_
  intro I w xs hg hi hx
  obtain ⟨xl⟩ := xs
  cases hx with | cons _ _ x xs hx hxs =>
  cases hxs; cases hx
  have htab : Lib.TabIs Tryz.prog w "internal/strconv.uint64pow10" .u64 Lib.pow10Tab := by
    obtain ⟨el, fz, h1⟩ := hg _ (List.mem_cons_self)
    have h2 := hi _ _ h1
    have hn : Tryz.prog.globalNamed "internal/strconv.uint64pow10" = some 2 := by kernel_rfl
    unfold Lib.TabIs World.var?
    rw [hn]
    show (match w.heap[2]? with | some (.cells cs _ _) => some cs | _ => none) = _
    rw [h2]
    kernel_rfl
  refine (Any.strconv_Itoa Tryz.laysM171 z hz.1 hz.2 w htab).mono ?_
  rintro e w' ⟨rfl, k, os, rfl⟩
  rw [itoa_eq]
  exact ⟨_, rfl, fun I => .str _ _ rfl, Lib.below_grow _ w (Nat.le_refl _) k os⟩
end Go.Proofs.YtkhbmendaapojaaGreatDoor
/- Decimal texts of the library: numbers as texts. -/
namespace Go.Proofs.YtkhbmendaapojaaGreatDoor
open Go Go.Vx Go.Num
set_option maxRecDepth 100000
attribute [local irreducible] CallV LoopV CodeV
def smallsL : List UInt8 := (List.range 100).flatMap fun q => [dch (q / 10), dch (q % 10)]
theorem small_at : ∀ q, q < 100 → byteAt smallsL (q * 2) = 48 + (q / 10 : Nat) ∧ byteAt smallsL (q * 2 + 1) = 48 + (q % 10 : Nat) := by decide
theorem sm_guard {l : List UInt8} (hl : l = smallsL) {x : Int} {m : Nat} (hx : x = (m : Int)) (hm : m < 200) : (decide (0 ≤ x) && decide (x < (l.length : Int))) = true := by
  have : l.length = 200 := by rw [hl]; decide
  rw [hx, this]; exact guardI (by omega)
theorem u32n (m : Nat) : IntKind.u32.wrap (m : Int) = ((m % 4294967296 : Nat) : Int) := by
  unfold IntKind.wrap
  simp [IntKind.bits, IntKind.signed]
theorem u64n (m : Nat) : IntKind.u64.wrap (m : Int) = ((m % 18446744073709551616 : Nat) : Int) := by
  unfold IntKind.wrap
  simp [IntKind.bits, IntKind.signed]
theorem tm8 (m : Nat) : ((m : Int)).tmod 100000000 = ((m % 100000000 : Nat) : Int) := by rw [Int.tmod_eq_emod_of_nonneg (by omega)]; omega
theorem tm4 (m : Nat) : ((m : Int)).tmod 10000 = ((m % 10000 : Nat) : Int) := by rw [Int.tmod_eq_emod_of_nonneg (by omega)]; omega
theorem tm2 (m : Nat) : ((m : Int)).tmod 100 = ((m % 100 : Nat) : Int) := by rw [Int.tmod_eq_emod_of_nonneg (by omega)]; omega
theorem td8 (m : Nat) : ((m : Int)).tdiv 100000000 = ((m / 100000000 : Nat) : Int) := by rw [Int.tdiv_eq_ediv_of_nonneg (by omega)]; omega
theorem td4 (m : Nat) : ((m : Int)).tdiv 10000 = ((m / 10000 : Nat) : Int) := by rw [Int.tdiv_eq_ediv_of_nonneg (by omega)]; omega
theorem td2 (m : Nat) : ((m : Int)).tdiv 100 = ((m / 100 : Nat) : Int) := by rw [Int.tdiv_eq_ediv_of_nonneg (by omega)]; omega
theorem mu2 (m : Nat) : ((m : Int)) * 2 = ((m * 2 : Nat) : Int) := by omega
theorem ad1 (m : Nat) : ((m : Int)) + 1 = ((m + 1 : Nat) : Int) := by omega
theorem consE {α : Type} {a b : α} {l m : List α} (h : a = b) (hs : l = m) : a :: l = b :: m := by rw [h, hs]
theorem dch_of (d : Nat) : UInt8.ofNat ((48 : Int) + (d : Nat)).toNat = dch d := by unfold dch; congr 1
theorem hi_ok {l : List UInt8} (hl : l = smallsL) (n k : Nat) {x : Int} (hx : x = ((n / 10 ^ k % 100 * 2 : Nat) : Int)) : UInt8.ofNat (byteAt l x.toNat).toNat = dch (dg 10 n (k + 1)) := by
  subst hl; subst hx
  rw [show (((n / 10 ^ k % 100 * 2 : Nat) : Int)).toNat = n / 10 ^ k % 100 * 2 from rfl, (small_at _ (Nat.mod_lt _ (by omega))).1, dch_of]
  congr 1
  unfold dg
  rw [Nat.pow_succ, ← Nat.div_div_eq_div_mul]
  omega
theorem lo_ok {l : List UInt8} (hl : l = smallsL) (n k : Nat) {x : Int} (hx : x = ((n / 10 ^ k % 100 * 2 + 1 : Nat) : Int)) : UInt8.ofNat (byteAt l x.toNat).toNat = dch (dg 10 n k) := by
  subst hl; subst hx
  rw [show (((n / 10 ^ k % 100 * 2 + 1 : Nat) : Int)).toNat = n / 10 ^ k % 100 * 2 + 1 from rfl, (small_at _ (Nat.mod_lt _ (by omega))).2, dch_of]
  congr 1
  unfold dg
  omega
theorem single_ok (n k : Nat) {x : Int} (hx : x = ((n / 10 ^ k : Nat) : Int)) (h : n / 10 ^ k < 10) : UInt8.ofNat (IntKind.u8.wrap (IntKind.u32.wrap (48 + x))).toNat = dch (dg 10 n k) := by
  subst hx
  unfold dg
  generalize n / 10 ^ k = q at h ⊢
  rw [show (48 : Int) + (q : Int) = ((48 + q : Nat) : Int) by omega, u32n, u8_in (by omega), Nat.mod_eq_of_lt (show 48 + q < 4294967296 by omega), Nat.mod_eq_of_lt h]
  rfl
theorem fmt_d3 (n : Nat) (h : 100 ≤ n) (hd : nl 10 n = 3) (hn : n < 18446744073709551616) : Pure Tryz.prog 111 [u64 n, i64 10] (fun o => o = .ret (.str (decN n))) := by
  refine pure_of Tryz.func111 rfl 400 ?_
  have hlt : n < 1000 := by have := lt_pow_nl (b := 10) (by omega) n; rw [hd] at this; exact this
  have hdec : decN n = [dch (dg 10 n 2), dch (dg 10 n 1), dch (dg 10 n 0)] := by rw [decN, if_neg (by omega), hd]; rfl
  conv => whnf
  refine branchF (decide_eq_false (by omega)) ?_
  conv => whnf
  have hnd := numDigits_pure n (by omega) hn
  rw [hd] at hnd
  refine callF1 hnd rfl rfl ?_
  conv => whnf
  refine loop_unroll Tryz.eok 300 2 ?_
  conv => whnf
  refine branchT (sm_guard (by kernel_rfl) (show _ = ((n % 100 * 2 + 1 : Nat) : Int) by simp only [u64n, u32n, tm8, tm4, tm2, td8, td4, td2, mu2, ad1]; omega) (by omega)) ?_
  conv => whnf
  refine branchT (sm_guard (by kernel_rfl) (show _ = ((n % 100 * 2 : Nat) : Int) by simp only [u64n, u32n, tm8, tm4, tm2, td8, td4, td2, mu2, ad1]; omega) (by omega)) ?_
  conv => whnf
  refine ⟨fun i hi => ?_, ?_⟩
  · have hi : i < 3 := hi
    have : i = 0 ∨ i = 1 ∨ i = 2 := by omega
    rcases this with rfl | rfl | rfl <;> rfl
  conv => whnf
  refine retS ?_
  rw [hdec]
  exact consE (single_ok n 2 (show _ = ((n / 100 : Nat) : Int) by simp only [u64n, u32n, tm8, tm4, tm2, td8, td4, td2, mu2, ad1]; omega) (show n / 100 < 10 by omega)) <| consE (hi_ok (by kernel_rfl) n 0 (show _ = ((n / 1 % 100 * 2 : Nat) : Int) by simp only [u64n, u32n, tm8, tm4, tm2, td8, td4, td2, mu2, ad1]; omega)) <| consE (lo_ok (by kernel_rfl) n 0 (show _ = ((n / 1 % 100 * 2 + 1 : Nat) : Int) by simp only [u64n, u32n, tm8, tm4, tm2, td8, td4, td2, mu2, ad1]; omega)) <| rfl
theorem fmt_d4 (n : Nat) (h : 100 ≤ n) (hd : nl 10 n = 4) (hn : n < 18446744073709551616) : Pure Tryz.prog 111 [u64 n, i64 10] (fun o => o = .ret (.str (decN n))) := by
  refine pure_of Tryz.func111 rfl 400 ?_
  have hlt : n < 10000 := by have := lt_pow_nl (b := 10) (by omega) n; rw [hd] at this; exact this
  have hdec : decN n = [dch (dg 10 n 3), dch (dg 10 n 2), dch (dg 10 n 1), dch (dg 10 n 0)] := by rw [decN, if_neg (by omega), hd]; rfl
  conv => whnf
  refine branchF (decide_eq_false (by omega)) ?_
  conv => whnf
  have hnd := numDigits_pure n (by omega) hn
  rw [hd] at hnd
  refine callF1 hnd rfl rfl ?_
  conv => whnf
  refine loop_unroll Tryz.eok 300 2 ?_
  conv => whnf
  refine branchT (sm_guard (by kernel_rfl) (show _ = ((n % 100 * 2 + 1 : Nat) : Int) by simp only [u64n, u32n, tm8, tm4, tm2, td8, td4, td2, mu2, ad1]; omega) (by omega)) ?_
  conv => whnf
  refine branchT (sm_guard (by kernel_rfl) (show _ = ((n % 100 * 2 : Nat) : Int) by simp only [u64n, u32n, tm8, tm4, tm2, td8, td4, td2, mu2, ad1]; omega) (by omega)) ?_
  conv => whnf
  refine branchT (sm_guard (by kernel_rfl) (show _ = ((n / 100 % 100 * 2 + 1 : Nat) : Int) by simp only [u64n, u32n, tm8, tm4, tm2, td8, td4, td2, mu2, ad1]; omega) (by omega)) ?_
  conv => whnf
  refine branchT (sm_guard (by kernel_rfl) (show _ = ((n / 100 % 100 * 2 : Nat) : Int) by simp only [u64n, u32n, tm8, tm4, tm2, td8, td4, td2, mu2, ad1]; omega) (by omega)) ?_
  conv => whnf
  refine ⟨fun i hi => ?_, ?_⟩
  · have hi : i < 4 := hi
    have : i = 0 ∨ i = 1 ∨ i = 2 ∨ i = 3 := by omega
    rcases this with rfl | rfl | rfl | rfl <;> rfl
  conv => whnf
  refine retS ?_
  rw [hdec]
  exact consE (hi_ok (by kernel_rfl) n 2 (show _ = ((n / 100 % 100 * 2 : Nat) : Int) by simp only [u64n, u32n, tm8, tm4, tm2, td8, td4, td2, mu2, ad1]; omega)) <| consE (lo_ok (by kernel_rfl) n 2 (show _ = ((n / 100 % 100 * 2 + 1 : Nat) : Int) by simp only [u64n, u32n, tm8, tm4, tm2, td8, td4, td2, mu2, ad1]; omega)) <| consE (hi_ok (by kernel_rfl) n 0 (show _ = ((n / 1 % 100 * 2 : Nat) : Int) by simp only [u64n, u32n, tm8, tm4, tm2, td8, td4, td2, mu2, ad1]; omega)) <| consE (lo_ok (by kernel_rfl) n 0 (show _ = ((n / 1 % 100 * 2 + 1 : Nat) : Int) by simp only [u64n, u32n, tm8, tm4, tm2, td8, td4, td2, mu2, ad1]; omega)) <| rfl
theorem fmt_d5 (n : Nat) (h : 100 ≤ n) (hd : nl 10 n = 5) (hn : n < 18446744073709551616) : Pure Tryz.prog 111 [u64 n, i64 10] (fun o => o = .ret (.str (decN n))) := by
  refine pure_of Tryz.func111 rfl 400 ?_
  have hlt : n < 100000 := by have := lt_pow_nl (b := 10) (by omega) n; rw [hd] at this; exact this
  have hdec : decN n = [dch (dg 10 n 4), dch (dg 10 n 3), dch (dg 10 n 2), dch (dg 10 n 1), dch (dg 10 n 0)] := by rw [decN, if_neg (by omega), hd]; rfl
  conv => whnf
  refine branchF (decide_eq_false (by omega)) ?_
  conv => whnf
  have hnd := numDigits_pure n (by omega) hn
  rw [hd] at hnd
  refine callF1 hnd rfl rfl ?_
  conv => whnf
  refine loop_unroll Tryz.eok 300 2 ?_
  conv => whnf
  refine branchT (sm_guard (by kernel_rfl) (show _ = ((n % 100 * 2 + 1 : Nat) : Int) by simp only [u64n, u32n, tm8, tm4, tm2, td8, td4, td2, mu2, ad1]; omega) (by omega)) ?_
  conv => whnf
  refine branchT (sm_guard (by kernel_rfl) (show _ = ((n % 100 * 2 : Nat) : Int) by simp only [u64n, u32n, tm8, tm4, tm2, td8, td4, td2, mu2, ad1]; omega) (by omega)) ?_
  conv => whnf
  refine branchT (sm_guard (by kernel_rfl) (show _ = ((n / 100 % 100 * 2 + 1 : Nat) : Int) by simp only [u64n, u32n, tm8, tm4, tm2, td8, td4, td2, mu2, ad1]; omega) (by omega)) ?_
  conv => whnf
  refine branchT (sm_guard (by kernel_rfl) (show _ = ((n / 100 % 100 * 2 : Nat) : Int) by simp only [u64n, u32n, tm8, tm4, tm2, td8, td4, td2, mu2, ad1]; omega) (by omega)) ?_
  conv => whnf
  refine ⟨fun i hi => ?_, ?_⟩
  · have hi : i < 5 := hi
    have : i = 0 ∨ i = 1 ∨ i = 2 ∨ i = 3 ∨ i = 4 := by omega
    rcases this with rfl | rfl | rfl | rfl | rfl <;> rfl
  conv => whnf
  refine retS ?_
  rw [hdec]
  exact consE (single_ok n 4 (show _ = ((n / 10000 : Nat) : Int) by simp only [u64n, u32n, tm8, tm4, tm2, td8, td4, td2, mu2, ad1]; omega) (show n / 10000 < 10 by omega)) <| consE (hi_ok (by kernel_rfl) n 2 (show _ = ((n / 100 % 100 * 2 : Nat) : Int) by simp only [u64n, u32n, tm8, tm4, tm2, td8, td4, td2, mu2, ad1]; omega)) <| consE (lo_ok (by kernel_rfl) n 2 (show _ = ((n / 100 % 100 * 2 + 1 : Nat) : Int) by simp only [u64n, u32n, tm8, tm4, tm2, td8, td4, td2, mu2, ad1]; omega)) <| consE (hi_ok (by kernel_rfl) n 0 (show _ = ((n / 1 % 100 * 2 : Nat) : Int) by simp only [u64n, u32n, tm8, tm4, tm2, td8, td4, td2, mu2, ad1]; omega)) <| consE (lo_ok (by kernel_rfl) n 0 (show _ = ((n / 1 % 100 * 2 + 1 : Nat) : Int) by simp only [u64n, u32n, tm8, tm4, tm2, td8, td4, td2, mu2, ad1]; omega)) <| rfl
theorem fmt_d6 (n : Nat) (h : 100 ≤ n) (hd : nl 10 n = 6) (hn : n < 18446744073709551616) : Pure Tryz.prog 111 [u64 n, i64 10] (fun o => o = .ret (.str (decN n))) := by
  refine pure_of Tryz.func111 rfl 400 ?_
  have hlt : n < 1000000 := by have := lt_pow_nl (b := 10) (by omega) n; rw [hd] at this; exact this
  have hdec : decN n = [dch (dg 10 n 5), dch (dg 10 n 4), dch (dg 10 n 3), dch (dg 10 n 2), dch (dg 10 n 1), dch (dg 10 n 0)] := by rw [decN, if_neg (by omega), hd]; rfl
  conv => whnf
  refine branchF (decide_eq_false (by omega)) ?_
  conv => whnf
  have hnd := numDigits_pure n (by omega) hn
  rw [hd] at hnd
  refine callF1 hnd rfl rfl ?_
  conv => whnf
  refine loop_unroll Tryz.eok 300 2 ?_
  conv => whnf
  refine branchT (sm_guard (by kernel_rfl) (show _ = ((n % 100 * 2 + 1 : Nat) : Int) by simp only [u64n, u32n, tm8, tm4, tm2, td8, td4, td2, mu2, ad1]; omega) (by omega)) ?_
  conv => whnf
  refine branchT (sm_guard (by kernel_rfl) (show _ = ((n % 100 * 2 : Nat) : Int) by simp only [u64n, u32n, tm8, tm4, tm2, td8, td4, td2, mu2, ad1]; omega) (by omega)) ?_
  conv => whnf
  refine branchT (sm_guard (by kernel_rfl) (show _ = ((n / 100 % 100 * 2 + 1 : Nat) : Int) by simp only [u64n, u32n, tm8, tm4, tm2, td8, td4, td2, mu2, ad1]; omega) (by omega)) ?_
  conv => whnf
  refine branchT (sm_guard (by kernel_rfl) (show _ = ((n / 100 % 100 * 2 : Nat) : Int) by simp only [u64n, u32n, tm8, tm4, tm2, td8, td4, td2, mu2, ad1]; omega) (by omega)) ?_
  conv => whnf
  refine branchT (sm_guard (by kernel_rfl) (show _ = ((n / 10000 % 100 * 2 + 1 : Nat) : Int) by simp only [u64n, u32n, tm8, tm4, tm2, td8, td4, td2, mu2, ad1]; omega) (by omega)) ?_
  conv => whnf
  refine branchT (sm_guard (by kernel_rfl) (show _ = ((n / 10000 % 100 * 2 : Nat) : Int) by simp only [u64n, u32n, tm8, tm4, tm2, td8, td4, td2, mu2, ad1]; omega) (by omega)) ?_
  conv => whnf
  refine ⟨fun i hi => ?_, ?_⟩
  · have hi : i < 6 := hi
    have : i = 0 ∨ i = 1 ∨ i = 2 ∨ i = 3 ∨ i = 4 ∨ i = 5 := by omega
    rcases this with rfl | rfl | rfl | rfl | rfl | rfl <;> rfl
  conv => whnf
  refine retS ?_
  rw [hdec]
  exact consE (hi_ok (by kernel_rfl) n 4 (show _ = ((n / 10000 % 100 * 2 : Nat) : Int) by simp only [u64n, u32n, tm8, tm4, tm2, td8, td4, td2, mu2, ad1]; omega)) <| consE (lo_ok (by kernel_rfl) n 4 (show _ = ((n / 10000 % 100 * 2 + 1 : Nat) : Int) by simp only [u64n, u32n, tm8, tm4, tm2, td8, td4, td2, mu2, ad1]; omega)) <| consE (hi_ok (by kernel_rfl) n 2 (show _ = ((n / 100 % 100 * 2 : Nat) : Int) by simp only [u64n, u32n, tm8, tm4, tm2, td8, td4, td2, mu2, ad1]; omega)) <| consE (lo_ok (by kernel_rfl) n 2 (show _ = ((n / 100 % 100 * 2 + 1 : Nat) : Int) by simp only [u64n, u32n, tm8, tm4, tm2, td8, td4, td2, mu2, ad1]; omega)) <| consE (hi_ok (by kernel_rfl) n 0 (show _ = ((n / 1 % 100 * 2 : Nat) : Int) by simp only [u64n, u32n, tm8, tm4, tm2, td8, td4, td2, mu2, ad1]; omega)) <| consE (lo_ok (by kernel_rfl) n 0 (show _ = ((n / 1 % 100 * 2 + 1 : Nat) : Int) by simp only [u64n, u32n, tm8, tm4, tm2, td8, td4, td2, mu2, ad1]; omega)) <| rfl
theorem fmt_d7 (n : Nat) (h : 100 ≤ n) (hd : nl 10 n = 7) (hn : n < 18446744073709551616) : Pure Tryz.prog 111 [u64 n, i64 10] (fun o => o = .ret (.str (decN n))) := by
  refine pure_of Tryz.func111 rfl 400 ?_
  have hlt : n < 10000000 := by have := lt_pow_nl (b := 10) (by omega) n; rw [hd] at this; exact this
  have hdec : decN n = [dch (dg 10 n 6), dch (dg 10 n 5), dch (dg 10 n 4), dch (dg 10 n 3), dch (dg 10 n 2), dch (dg 10 n 1), dch (dg 10 n 0)] := by rw [decN, if_neg (by omega), hd]; rfl
  conv => whnf
  refine branchF (decide_eq_false (by omega)) ?_
  conv => whnf
  have hnd := numDigits_pure n (by omega) hn
  rw [hd] at hnd
  refine callF1 hnd rfl rfl ?_
  conv => whnf
  refine loop_unroll Tryz.eok 300 2 ?_
  conv => whnf
  refine branchT (sm_guard (by kernel_rfl) (show _ = ((n % 100 * 2 + 1 : Nat) : Int) by simp only [u64n, u32n, tm8, tm4, tm2, td8, td4, td2, mu2, ad1]; omega) (by omega)) ?_
  conv => whnf
  refine branchT (sm_guard (by kernel_rfl) (show _ = ((n % 100 * 2 : Nat) : Int) by simp only [u64n, u32n, tm8, tm4, tm2, td8, td4, td2, mu2, ad1]; omega) (by omega)) ?_
  conv => whnf
  refine branchT (sm_guard (by kernel_rfl) (show _ = ((n / 100 % 100 * 2 + 1 : Nat) : Int) by simp only [u64n, u32n, tm8, tm4, tm2, td8, td4, td2, mu2, ad1]; omega) (by omega)) ?_
  conv => whnf
  refine branchT (sm_guard (by kernel_rfl) (show _ = ((n / 100 % 100 * 2 : Nat) : Int) by simp only [u64n, u32n, tm8, tm4, tm2, td8, td4, td2, mu2, ad1]; omega) (by omega)) ?_
  conv => whnf
  refine branchT (sm_guard (by kernel_rfl) (show _ = ((n / 10000 % 100 * 2 + 1 : Nat) : Int) by simp only [u64n, u32n, tm8, tm4, tm2, td8, td4, td2, mu2, ad1]; omega) (by omega)) ?_
  conv => whnf
  refine branchT (sm_guard (by kernel_rfl) (show _ = ((n / 10000 % 100 * 2 : Nat) : Int) by simp only [u64n, u32n, tm8, tm4, tm2, td8, td4, td2, mu2, ad1]; omega) (by omega)) ?_
  conv => whnf
  refine ⟨fun i hi => ?_, ?_⟩
  · have hi : i < 7 := hi
    have : i = 0 ∨ i = 1 ∨ i = 2 ∨ i = 3 ∨ i = 4 ∨ i = 5 ∨ i = 6 := by omega
    rcases this with rfl | rfl | rfl | rfl | rfl | rfl | rfl <;> rfl
  conv => whnf
  refine retS ?_
  rw [hdec]
  exact consE (single_ok n 6 (show _ = ((n / 1000000 : Nat) : Int) by simp only [u64n, u32n, tm8, tm4, tm2, td8, td4, td2, mu2, ad1]; omega) (show n / 1000000 < 10 by omega)) <| consE (hi_ok (by kernel_rfl) n 4 (show _ = ((n / 10000 % 100 * 2 : Nat) : Int) by simp only [u64n, u32n, tm8, tm4, tm2, td8, td4, td2, mu2, ad1]; omega)) <| consE (lo_ok (by kernel_rfl) n 4 (show _ = ((n / 10000 % 100 * 2 + 1 : Nat) : Int) by simp only [u64n, u32n, tm8, tm4, tm2, td8, td4, td2, mu2, ad1]; omega)) <| consE (hi_ok (by kernel_rfl) n 2 (show _ = ((n / 100 % 100 * 2 : Nat) : Int) by simp only [u64n, u32n, tm8, tm4, tm2, td8, td4, td2, mu2, ad1]; omega)) <| consE (lo_ok (by kernel_rfl) n 2 (show _ = ((n / 100 % 100 * 2 + 1 : Nat) : Int) by simp only [u64n, u32n, tm8, tm4, tm2, td8, td4, td2, mu2, ad1]; omega)) <| consE (hi_ok (by kernel_rfl) n 0 (show _ = ((n / 1 % 100 * 2 : Nat) : Int) by simp only [u64n, u32n, tm8, tm4, tm2, td8, td4, td2, mu2, ad1]; omega)) <| consE (lo_ok (by kernel_rfl) n 0 (show _ = ((n / 1 % 100 * 2 + 1 : Nat) : Int) by simp only [u64n, u32n, tm8, tm4, tm2, td8, td4, td2, mu2, ad1]; omega)) <| rfl
theorem fmt_d8 (n : Nat) (h : 100 ≤ n) (hd : nl 10 n = 8) (hn : n < 18446744073709551616) : Pure Tryz.prog 111 [u64 n, i64 10] (fun o => o = .ret (.str (decN n))) := by
  refine pure_of Tryz.func111 rfl 400 ?_
  have hlt : n < 100000000 := by have := lt_pow_nl (b := 10) (by omega) n; rw [hd] at this; exact this
  have hdec : decN n = [dch (dg 10 n 7), dch (dg 10 n 6), dch (dg 10 n 5), dch (dg 10 n 4), dch (dg 10 n 3), dch (dg 10 n 2), dch (dg 10 n 1), dch (dg 10 n 0)] := by rw [decN, if_neg (by omega), hd]; rfl
  conv => whnf
  refine branchF (decide_eq_false (by omega)) ?_
  conv => whnf
  have hnd := numDigits_pure n (by omega) hn
  rw [hd] at hnd
  refine callF1 hnd rfl rfl ?_
  conv => whnf
  refine loop_unroll Tryz.eok 300 3 ?_
  conv => whnf
  refine branchT (sm_guard (by kernel_rfl) (show _ = ((n % 100 * 2 + 1 : Nat) : Int) by simp only [u64n, u32n, tm8, tm4, tm2, td8, td4, td2, mu2, ad1]; omega) (by omega)) ?_
  conv => whnf
  refine branchT (sm_guard (by kernel_rfl) (show _ = ((n % 100 * 2 : Nat) : Int) by simp only [u64n, u32n, tm8, tm4, tm2, td8, td4, td2, mu2, ad1]; omega) (by omega)) ?_
  conv => whnf
  refine branchT (sm_guard (by kernel_rfl) (show _ = ((n / 100 % 100 * 2 + 1 : Nat) : Int) by simp only [u64n, u32n, tm8, tm4, tm2, td8, td4, td2, mu2, ad1]; omega) (by omega)) ?_
  conv => whnf
  refine branchT (sm_guard (by kernel_rfl) (show _ = ((n / 100 % 100 * 2 : Nat) : Int) by simp only [u64n, u32n, tm8, tm4, tm2, td8, td4, td2, mu2, ad1]; omega) (by omega)) ?_
  conv => whnf
  refine branchT (sm_guard (by kernel_rfl) (show _ = ((n / 10000 % 100 * 2 + 1 : Nat) : Int) by simp only [u64n, u32n, tm8, tm4, tm2, td8, td4, td2, mu2, ad1]; omega) (by omega)) ?_
  conv => whnf
  refine branchT (sm_guard (by kernel_rfl) (show _ = ((n / 10000 % 100 * 2 : Nat) : Int) by simp only [u64n, u32n, tm8, tm4, tm2, td8, td4, td2, mu2, ad1]; omega) (by omega)) ?_
  conv => whnf
  refine branchT (sm_guard (by kernel_rfl) (show _ = ((n / 1000000 % 100 * 2 + 1 : Nat) : Int) by simp only [u64n, u32n, tm8, tm4, tm2, td8, td4, td2, mu2, ad1]; omega) (by omega)) ?_
  conv => whnf
  refine branchT (sm_guard (by kernel_rfl) (show _ = ((n / 1000000 % 100 * 2 : Nat) : Int) by simp only [u64n, u32n, tm8, tm4, tm2, td8, td4, td2, mu2, ad1]; omega) (by omega)) ?_
  conv => whnf
  refine ⟨fun i hi => ?_, ?_⟩
  · have hi : i < 8 := hi
    have : i = 0 ∨ i = 1 ∨ i = 2 ∨ i = 3 ∨ i = 4 ∨ i = 5 ∨ i = 6 ∨ i = 7 := by omega
    rcases this with rfl | rfl | rfl | rfl | rfl | rfl | rfl | rfl <;> rfl
  conv => whnf
  refine retS ?_
  rw [hdec]
  exact consE (hi_ok (by kernel_rfl) n 6 (show _ = ((n / 1000000 % 100 * 2 : Nat) : Int) by simp only [u64n, u32n, tm8, tm4, tm2, td8, td4, td2, mu2, ad1]; omega)) <| consE (lo_ok (by kernel_rfl) n 6 (show _ = ((n / 1000000 % 100 * 2 + 1 : Nat) : Int) by simp only [u64n, u32n, tm8, tm4, tm2, td8, td4, td2, mu2, ad1]; omega)) <| consE (hi_ok (by kernel_rfl) n 4 (show _ = ((n / 10000 % 100 * 2 : Nat) : Int) by simp only [u64n, u32n, tm8, tm4, tm2, td8, td4, td2, mu2, ad1]; omega)) <| consE (lo_ok (by kernel_rfl) n 4 (show _ = ((n / 10000 % 100 * 2 + 1 : Nat) : Int) by simp only [u64n, u32n, tm8, tm4, tm2, td8, td4, td2, mu2, ad1]; omega)) <| consE (hi_ok (by kernel_rfl) n 2 (show _ = ((n / 100 % 100 * 2 : Nat) : Int) by simp only [u64n, u32n, tm8, tm4, tm2, td8, td4, td2, mu2, ad1]; omega)) <| consE (lo_ok (by kernel_rfl) n 2 (show _ = ((n / 100 % 100 * 2 + 1 : Nat) : Int) by simp only [u64n, u32n, tm8, tm4, tm2, td8, td4, td2, mu2, ad1]; omega)) <| consE (hi_ok (by kernel_rfl) n 0 (show _ = ((n / 1 % 100 * 2 : Nat) : Int) by simp only [u64n, u32n, tm8, tm4, tm2, td8, td4, td2, mu2, ad1]; omega)) <| consE (lo_ok (by kernel_rfl) n 0 (show _ = ((n / 1 % 100 * 2 + 1 : Nat) : Int) by simp only [u64n, u32n, tm8, tm4, tm2, td8, td4, td2, mu2, ad1]; omega)) <| rfl
theorem fmt_d9 (n : Nat) (h : 100 ≤ n) (hd : nl 10 n = 9) (hn : n < 18446744073709551616) : Pure Tryz.prog 111 [u64 n, i64 10] (fun o => o = .ret (.str (decN n))) := by
  refine pure_of Tryz.func111 rfl 400 ?_
  have hlt : n < 1000000000 := by have := lt_pow_nl (b := 10) (by omega) n; rw [hd] at this; exact this
  have hdec : decN n = [dch (dg 10 n 8), dch (dg 10 n 7), dch (dg 10 n 6), dch (dg 10 n 5), dch (dg 10 n 4), dch (dg 10 n 3), dch (dg 10 n 2), dch (dg 10 n 1), dch (dg 10 n 0)] := by rw [decN, if_neg (by omega), hd]; rfl
  conv => whnf
  refine branchF (decide_eq_false (by omega)) ?_
  conv => whnf
  have hnd := numDigits_pure n (by omega) hn
  rw [hd] at hnd
  refine callF1 hnd rfl rfl ?_
  conv => whnf
  refine loop_unroll Tryz.eok 300 3 ?_
  conv => whnf
  refine branchT (sm_guard (by kernel_rfl) (show _ = ((n % 100 * 2 + 1 : Nat) : Int) by simp only [u64n, u32n, tm8, tm4, tm2, td8, td4, td2, mu2, ad1]; omega) (by omega)) ?_
  conv => whnf
  refine branchT (sm_guard (by kernel_rfl) (show _ = ((n % 100 * 2 : Nat) : Int) by simp only [u64n, u32n, tm8, tm4, tm2, td8, td4, td2, mu2, ad1]; omega) (by omega)) ?_
  conv => whnf
  refine branchT (sm_guard (by kernel_rfl) (show _ = ((n / 100 % 100 * 2 + 1 : Nat) : Int) by simp only [u64n, u32n, tm8, tm4, tm2, td8, td4, td2, mu2, ad1]; omega) (by omega)) ?_
  conv => whnf
  refine branchT (sm_guard (by kernel_rfl) (show _ = ((n / 100 % 100 * 2 : Nat) : Int) by simp only [u64n, u32n, tm8, tm4, tm2, td8, td4, td2, mu2, ad1]; omega) (by omega)) ?_
  conv => whnf
  refine branchT (sm_guard (by kernel_rfl) (show _ = ((n / 10000 % 100 * 2 + 1 : Nat) : Int) by simp only [u64n, u32n, tm8, tm4, tm2, td8, td4, td2, mu2, ad1]; omega) (by omega)) ?_
  conv => whnf
  refine branchT (sm_guard (by kernel_rfl) (show _ = ((n / 10000 % 100 * 2 : Nat) : Int) by simp only [u64n, u32n, tm8, tm4, tm2, td8, td4, td2, mu2, ad1]; omega) (by omega)) ?_
  conv => whnf
  refine branchT (sm_guard (by kernel_rfl) (show _ = ((n / 1000000 % 100 * 2 + 1 : Nat) : Int) by simp only [u64n, u32n, tm8, tm4, tm2, td8, td4, td2, mu2, ad1]; omega) (by omega)) ?_
  conv => whnf
  refine branchT (sm_guard (by kernel_rfl) (show _ = ((n / 1000000 % 100 * 2 : Nat) : Int) by simp only [u64n, u32n, tm8, tm4, tm2, td8, td4, td2, mu2, ad1]; omega) (by omega)) ?_
  conv => whnf
  refine ⟨fun i hi => ?_, ?_⟩
  · have hi : i < 9 := hi
    have : i = 0 ∨ i = 1 ∨ i = 2 ∨ i = 3 ∨ i = 4 ∨ i = 5 ∨ i = 6 ∨ i = 7 ∨ i = 8 := by omega
    rcases this with rfl | rfl | rfl | rfl | rfl | rfl | rfl | rfl | rfl <;> rfl
  conv => whnf
  refine retS ?_
  rw [hdec]
  exact consE (single_ok n 8 (show _ = ((n / 100000000 : Nat) : Int) by simp only [u64n, u32n, tm8, tm4, tm2, td8, td4, td2, mu2, ad1]; omega) (show n / 100000000 < 10 by omega)) <| consE (hi_ok (by kernel_rfl) n 6 (show _ = ((n / 1000000 % 100 * 2 : Nat) : Int) by simp only [u64n, u32n, tm8, tm4, tm2, td8, td4, td2, mu2, ad1]; omega)) <| consE (lo_ok (by kernel_rfl) n 6 (show _ = ((n / 1000000 % 100 * 2 + 1 : Nat) : Int) by simp only [u64n, u32n, tm8, tm4, tm2, td8, td4, td2, mu2, ad1]; omega)) <| consE (hi_ok (by kernel_rfl) n 4 (show _ = ((n / 10000 % 100 * 2 : Nat) : Int) by simp only [u64n, u32n, tm8, tm4, tm2, td8, td4, td2, mu2, ad1]; omega)) <| consE (lo_ok (by kernel_rfl) n 4 (show _ = ((n / 10000 % 100 * 2 + 1 : Nat) : Int) by simp only [u64n, u32n, tm8, tm4, tm2, td8, td4, td2, mu2, ad1]; omega)) <| consE (hi_ok (by kernel_rfl) n 2 (show _ = ((n / 100 % 100 * 2 : Nat) : Int) by simp only [u64n, u32n, tm8, tm4, tm2, td8, td4, td2, mu2, ad1]; omega)) <| consE (lo_ok (by kernel_rfl) n 2 (show _ = ((n / 100 % 100 * 2 + 1 : Nat) : Int) by simp only [u64n, u32n, tm8, tm4, tm2, td8, td4, td2, mu2, ad1]; omega)) <| consE (hi_ok (by kernel_rfl) n 0 (show _ = ((n / 1 % 100 * 2 : Nat) : Int) by simp only [u64n, u32n, tm8, tm4, tm2, td8, td4, td2, mu2, ad1]; omega)) <| consE (lo_ok (by kernel_rfl) n 0 (show _ = ((n / 1 % 100 * 2 + 1 : Nat) : Int) by simp only [u64n, u32n, tm8, tm4, tm2, td8, td4, td2, mu2, ad1]; omega)) <| rfl
theorem fmt_d10 (n : Nat) (h : 100 ≤ n) (hd : nl 10 n = 10) (hn : n < 18446744073709551616) : Pure Tryz.prog 111 [u64 n, i64 10] (fun o => o = .ret (.str (decN n))) := by
  refine pure_of Tryz.func111 rfl 400 ?_
  have hlt : n < 10000000000 := by have := lt_pow_nl (b := 10) (by omega) n; rw [hd] at this; exact this
  have hdec : decN n = [dch (dg 10 n 9), dch (dg 10 n 8), dch (dg 10 n 7), dch (dg 10 n 6), dch (dg 10 n 5), dch (dg 10 n 4), dch (dg 10 n 3), dch (dg 10 n 2), dch (dg 10 n 1), dch (dg 10 n 0)] := by rw [decN, if_neg (by omega), hd]; rfl
  conv => whnf
  refine branchF (decide_eq_false (by omega)) ?_
  conv => whnf
  have hnd := numDigits_pure n (by omega) hn
  rw [hd] at hnd
  refine callF1 hnd rfl rfl ?_
  conv => whnf
  refine loop_unroll Tryz.eok 300 3 ?_
  conv => whnf
  refine branchT (sm_guard (by kernel_rfl) (show _ = ((n % 100 * 2 + 1 : Nat) : Int) by simp only [u64n, u32n, tm8, tm4, tm2, td8, td4, td2, mu2, ad1]; omega) (by omega)) ?_
  conv => whnf
  refine branchT (sm_guard (by kernel_rfl) (show _ = ((n % 100 * 2 : Nat) : Int) by simp only [u64n, u32n, tm8, tm4, tm2, td8, td4, td2, mu2, ad1]; omega) (by omega)) ?_
  conv => whnf
  refine branchT (sm_guard (by kernel_rfl) (show _ = ((n / 100 % 100 * 2 + 1 : Nat) : Int) by simp only [u64n, u32n, tm8, tm4, tm2, td8, td4, td2, mu2, ad1]; omega) (by omega)) ?_
  conv => whnf
  refine branchT (sm_guard (by kernel_rfl) (show _ = ((n / 100 % 100 * 2 : Nat) : Int) by simp only [u64n, u32n, tm8, tm4, tm2, td8, td4, td2, mu2, ad1]; omega) (by omega)) ?_
  conv => whnf
  refine branchT (sm_guard (by kernel_rfl) (show _ = ((n / 10000 % 100 * 2 + 1 : Nat) : Int) by simp only [u64n, u32n, tm8, tm4, tm2, td8, td4, td2, mu2, ad1]; omega) (by omega)) ?_
  conv => whnf
  refine branchT (sm_guard (by kernel_rfl) (show _ = ((n / 10000 % 100 * 2 : Nat) : Int) by simp only [u64n, u32n, tm8, tm4, tm2, td8, td4, td2, mu2, ad1]; omega) (by omega)) ?_
  conv => whnf
  refine branchT (sm_guard (by kernel_rfl) (show _ = ((n / 1000000 % 100 * 2 + 1 : Nat) : Int) by simp only [u64n, u32n, tm8, tm4, tm2, td8, td4, td2, mu2, ad1]; omega) (by omega)) ?_
  conv => whnf
  refine branchT (sm_guard (by kernel_rfl) (show _ = ((n / 1000000 % 100 * 2 : Nat) : Int) by simp only [u64n, u32n, tm8, tm4, tm2, td8, td4, td2, mu2, ad1]; omega) (by omega)) ?_
  conv => whnf
  refine branchT (sm_guard (by kernel_rfl) (show _ = ((n / 100000000 % 100 * 2 + 1 : Nat) : Int) by simp only [u64n, u32n, tm8, tm4, tm2, td8, td4, td2, mu2, ad1]; omega) (by omega)) ?_
  conv => whnf
  refine branchT (sm_guard (by kernel_rfl) (show _ = ((n / 100000000 % 100 * 2 : Nat) : Int) by simp only [u64n, u32n, tm8, tm4, tm2, td8, td4, td2, mu2, ad1]; omega) (by omega)) ?_
  conv => whnf
  refine ⟨fun i hi => ?_, ?_⟩
  · have hi : i < 10 := hi
    have : i = 0 ∨ i = 1 ∨ i = 2 ∨ i = 3 ∨ i = 4 ∨ i = 5 ∨ i = 6 ∨ i = 7 ∨ i = 8 ∨ i = 9 := by omega
    rcases this with rfl | rfl | rfl | rfl | rfl | rfl | rfl | rfl | rfl | rfl <;> rfl
  conv => whnf
  refine retS ?_
  rw [hdec]
  exact consE (hi_ok (by kernel_rfl) n 8 (show _ = ((n / 100000000 % 100 * 2 : Nat) : Int) by simp only [u64n, u32n, tm8, tm4, tm2, td8, td4, td2, mu2, ad1]; omega)) <| consE (lo_ok (by kernel_rfl) n 8 (show _ = ((n / 100000000 % 100 * 2 + 1 : Nat) : Int) by simp only [u64n, u32n, tm8, tm4, tm2, td8, td4, td2, mu2, ad1]; omega)) <| consE (hi_ok (by kernel_rfl) n 6 (show _ = ((n / 1000000 % 100 * 2 : Nat) : Int) by simp only [u64n, u32n, tm8, tm4, tm2, td8, td4, td2, mu2, ad1]; omega)) <| consE (lo_ok (by kernel_rfl) n 6 (show _ = ((n / 1000000 % 100 * 2 + 1 : Nat) : Int) by simp only [u64n, u32n, tm8, tm4, tm2, td8, td4, td2, mu2, ad1]; omega)) <| consE (hi_ok (by kernel_rfl) n 4 (show _ = ((n / 10000 % 100 * 2 : Nat) : Int) by simp only [u64n, u32n, tm8, tm4, tm2, td8, td4, td2, mu2, ad1]; omega)) <| consE (lo_ok (by kernel_rfl) n 4 (show _ = ((n / 10000 % 100 * 2 + 1 : Nat) : Int) by simp only [u64n, u32n, tm8, tm4, tm2, td8, td4, td2, mu2, ad1]; omega)) <| consE (hi_ok (by kernel_rfl) n 2 (show _ = ((n / 100 % 100 * 2 : Nat) : Int) by simp only [u64n, u32n, tm8, tm4, tm2, td8, td4, td2, mu2, ad1]; omega)) <| consE (lo_ok (by kernel_rfl) n 2 (show _ = ((n / 100 % 100 * 2 + 1 : Nat) : Int) by simp only [u64n, u32n, tm8, tm4, tm2, td8, td4, td2, mu2, ad1]; omega)) <| consE (hi_ok (by kernel_rfl) n 0 (show _ = ((n / 1 % 100 * 2 : Nat) : Int) by simp only [u64n, u32n, tm8, tm4, tm2, td8, td4, td2, mu2, ad1]; omega)) <| consE (lo_ok (by kernel_rfl) n 0 (show _ = ((n / 1 % 100 * 2 + 1 : Nat) : Int) by simp only [u64n, u32n, tm8, tm4, tm2, td8, td4, td2, mu2, ad1]; omega)) <| rfl
end Go.Proofs.YtkhbmendaapojaaGreatDoor
