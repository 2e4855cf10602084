/- What a text of a whole number is: Check. Decimal texts of the library: how many digits. -/
import Derived.Test.YtkhbmendaapojaaGreatDoorPkBa18
set_option linter.unusedSimpArgs false
set_option linter.unusedVariables false
/- What a text of a whole number is: Check. -/
namespace Go.Proofs.YtkhbmendaapojaaGreatDoor
open Go Go.Vx Go.Num
set_option maxRecDepth 100000
attribute [local irreducible] CallV LoopV CodeV
theorem rune_at (l : List UInt8) (pos : Nat) (hp : pos < l.length) :
    (byteAt l pos < 128 → runeAt l pos = ((byteAt l pos).toNat, 1)) ∧ (128 ≤ byteAt l pos → 128 ≤ (runeAt l pos).1) := by
  have h0 : (ByteArray.get! ⟨l.toArray⟩ (pos + 0)).toNat = (byteAt l pos).toNat := by
    unfold byteAt ByteArray.get!
    simp [List.getD_eq_getElem?_getD, hp]
  have h1 : (0 : Int) ≤ byteAt l pos := by unfold byteAt; omega
  constructor
  · intro h
    unfold runeAt Utf8.decode
    simp only [h0]
    rw [if_pos (by omega)]
  · intro h
    unfold runeAt Utf8.decode
    simp only [h0]
    rw [if_neg (by omega)]
    have hr : 128 ≤ Utf8.runeError := by decide
    repeat' split
    all_goals first | exact hr | (simp only []; omega) | (rename_i h; rw [Bool.and_eq_true] at h; have := of_decide_eq_true h.1; simp only []; omega)
def digitAt (l : List UInt8) (i : Nat) : Bool := decide (48 ≤ byteAt l i) && decide (byteAt l i ≤ 57)
theorem digitAt_cons (c : UInt8) (l : List UInt8) (i : Nat) : digitAt (c :: l) (i + 1) = digitAt l i := rfl
theorem digitAt_zero (c : UInt8) (l : List UInt8) : digitAt (c :: l) 0 = isD c := by
  unfold digitAt isD
  show (decide ((48 : Int) ≤ (c.toNat : Int)) && decide ((c.toNat : Int) ≤ 57)) = _
  congr 1 <;> (apply decide_eq_decide.2; omega)
theorem all_digits : ∀ {l : List UInt8}, (∀ c ∈ l, isD c = true) ↔ ∀ i, i < l.length → digitAt l i = true
  | [] => by simp
  | c :: l => by
    constructor
    · intro h i hi
      match i with
      | 0 => rw [digitAt_zero]; exact h c (by simp)
      | i + 1 => rw [digitAt_cons]; exact (all_digits (l := l)).1 (fun d hd => h d (by simp [hd])) i (by simpa using hi)
    · intro h d hd
      rcases List.mem_cons.1 hd with rfl | hd
      · have := h 0 (by simp); rwa [digitAt_zero] at this
      · exact (all_digits (l := l)).2 (fun i hi => by have := h (i + 1) (by simpa using hi); rwa [digitAt_cons] at this) d hd
theorem other_pure (r : Int) : Pure Tryz.prog 118 [.int .i32 r] (fun o => o = .ret (.bool (decide (r < 48) || decide (57 < r)))) := by
  refine pure_of Tryz.func118 rfl 100 ?_
  conv => whnf
  refine branchI (fun h1 => ?_) (fun h1 => ?_)
  · have h1 : decide (r < 48) = true := h1
    conv => whnf
    refine retB ?_
    rw [h1]; rfl
  · have h1 : decide (r < 48) = false := h1
    conv => whnf
    refine retB ?_
    rw [h1]; rfl
theorem index_other (l : List UInt8) (hl : l.length < 4611686018427387904) : Pure Tryz.prog 148 [.str l, .fn (.func 118) [], .bool true] (fun o => ∃ r : Int, o = .ret (i64 r) ∧ (0 ≤ r ↔ ¬ ∀ c ∈ l, isD c = true)) := by
  refine pure_of Tryz.func148 rfl 100 ?_
  conv => whnf
  refine loop_inv Tryz.eok 80 (fun k : Nat => k ≤ l.length ∧ ∀ i, i < k → digitAt l i = true) (fun k => l.length - k)
    (fun k => slots [(0, .str l), (1, .fn (.func 118) []), (2, .bool true), (10, .ptr 0 0 0)] 0 21) (fun k => [.siter l k]) 0 [] ⟨Nat.zero_le _, fun i hi => absurd hi (Nat.not_lt_zero i)⟩ ?_ rfl ?_
  · repeat' constructor
  rintro k ⟨hk, hd⟩
  conv => whnf
  refine branchI (fun h1 => ?_) (fun h1 => ?_)
  · have hk2 : k < l.length := Nat.lt_of_succ_le (Nat.le_of_ble_eq_true h1)
    obtain ⟨r1, r2⟩ := rune_at l k hk2
    conv => whnf
    refine callF1 (other_pure ((runeAt l k).1 : Int)) rfl rfl ?_
    conv => whnf
    by_cases hd1 : digitAt l k = true
    · have hd2 := hd1
      unfold digitAt at hd2
      rw [Bool.and_eq_true] at hd2
      have b1 := of_decide_eq_true hd2.1
      have b2 := of_decide_eq_true hd2.2
      have hr := r1 (by omega)
      refine branchF ?_ ?_
      · show ((decide (((runeAt l k).1 : Int) < 48) || decide (57 < ((runeAt l k).1 : Int))) == true) = false
        rw [hr, decide_eq_false (by show ¬ (((byteAt l k).toNat : Nat) : Int) < 48; omega), decide_eq_false (by show ¬ 57 < (((byteAt l k).toNat : Nat) : Int); omega)]; rfl
      conv => whnf
      refine ⟨rfl, k + 1, [], ⟨hk2, fun i hi => ?_⟩, by omega, rfl, ?_⟩
      · by_cases h : i < k
        · exact hd i h
        · obtain rfl : i = k := by omega
          exact hd1
      · repeat' constructor
        show k + (runeAt l k).2 = k + 1
        rw [hr]
    · have hbad : ¬ ∀ c ∈ l, isD c = true := fun h => hd1 (all_digits.1 h k hk2)
      refine branchT ?_ ?_
      · show ((decide (((runeAt l k).1 : Int) < 48) || decide (57 < ((runeAt l k).1 : Int))) == true) = true
        have : ((runeAt l k).1 : Int) < 48 ∨ 57 < ((runeAt l k).1 : Int) := by
          by_cases h3 : byteAt l k < 128
          · rw [r1 h3]
            show (((byteAt l k).toNat : Nat) : Int) < 48 ∨ 57 < (((byteAt l k).toNat : Nat) : Int)
            have h0 : (0 : Int) ≤ byteAt l k := by unfold byteAt; omega
            unfold digitAt at hd1
            simp at hd1
            omega
          · have := r2 (by omega)
            omega
        rcases this with h | h
        · rw [decide_eq_true h]; rfl
        · rw [decide_eq_true h, Bool.or_true]; rfl
      conv => whnf
      exact ⟨(k : Int), rfl, by simp only [hbad, not_false_eq_true, iff_true]; omega⟩
  · have hk2 : l.length ≤ k := Nat.le_of_not_lt fun h => by
      have : Nat.blt k l.length = true := Nat.ble_eq.mpr h
      exact absurd (h1.symm.trans this) (by decide)
    conv => whnf
    refine ⟨-1, rfl, ?_⟩
    have : ∀ c ∈ l, isD c = true := all_digits.2 fun i hi => hd i (by omega)
    constructor
    · intro h; exact absurd h (by decide)
    · intro h; exact absurd this h
/-- A text without its sign. -/
def bodyW : List UInt8 → List UInt8
  | [] => []
  | c :: t => if c = 45 then t else c :: t
def okW (l : List UInt8) : Prop := bodyW l ≠ [] ∧ (bodyW l).length ≤ 600 ∧ (∀ c ∈ bodyW l, isD c = true) ∧ ¬ ((bodyW l).head? = some 48 ∧ (1 < (bodyW l).length ∨ 1 < l.length))
theorem tpre_pure (l : List UInt8) : Pure Tryz.prog 117 [.str l, .str [45]] (fun o => o = .ret (.str (bodyW l))) := by
  refine pure_of Tryz.func117 rfl 200 ?_
  conv => whnf
  refine branchI (fun h1 => ?_) (fun h1 => ?_)
  · have h1 : decide ((1 : Int) ≤ (l.length : Int)) = true := h1
    have h1' := of_decide_eq_true h1
    conv => whnf
    refine branchT ?_ ?_
    · show (decide ((0 : Int) ≤ 0) && (decide ((0 : Int) ≤ 1) && decide ((1 : Int) ≤ (l.length : Int)))) = true
      rw [h1]; rfl
    conv => whnf
    refine branchI (fun h3 => ?_) (fun h3 => ?_)
    · have h3 : (List.drop 0 (List.take 1 l) == [45]) = true := h3
      conv => whnf
      refine branchT ?_ ?_
      · show (decide ((0 : Int) ≤ 1) && (decide ((1 : Int) ≤ (l.length : Int)) && decide ((l.length : Int) ≤ (l.length : Int)))) = true
        rw [h1, decide_eq_true (Int.le_refl _)]; rfl
      conv => whnf
      refine retS ?_
      show List.drop 1 (List.take (Int.toNat (l.length : Int)) l) = _
      match l, h3 with
      | c :: t, h3 =>
        have : c = 45 := by simpa using h3
        subst this
        show List.take t.length t = _
        rw [List.take_length]; rfl
    · have h3 : (List.drop 0 (List.take 1 l) == [45]) = false := h3
      conv => whnf
      refine retS ?_
      match l, h3 with
      | [], _ => rfl
      | c :: t, h3 =>
        have : c ≠ 45 := by simpa using h3
        simp [bodyW, this]
  · have h1 : decide ((1 : Int) ≤ (l.length : Int)) = false := h1
    have h1' := of_decide_eq_false h1
    conv => whnf
    refine retS ?_
    match l, h1' with
    | [], _ => rfl
    | c :: t, h1' => exact absurd (show (1 : Int) ≤ ((t.length + 1 : Nat) : Int) by omega) h1'
theorem bodyW_cons (c : UInt8) (t : List UInt8) : bodyW (c :: t) = if c = 45 then t else c :: t := rfl
theorem bodyW_len (l : List UInt8) : (bodyW l).length ≤ l.length := by
  match l with
  | [] => exact Nat.le_refl _
  | c :: t => rw [bodyW_cons]; split <;> simp
theorem decN_head {n : Nat} (h : n ≠ 0) : ∃ d, 1 ≤ d ∧ d ≤ 9 ∧ (decN n).head? = some (dch d) := by
  have hp := nl_pos (b := 10) (by omega) h
  have ht := dg_top (b := 10) (by omega) h
  have hl := dg_lt (b := 10) (by omega) n (nl 10 n - 1)
  refine ⟨dg 10 n (nl 10 n - 1), by omega, by omega, ?_⟩
  rw [decN, if_neg h]
  obtain ⟨k, hk⟩ : ∃ k, nl 10 n = k + 1 := ⟨nl 10 n - 1, by omega⟩
  rw [hk]; rfl
theorem bodyW_decN (n : Nat) : bodyW (decN n) = decN n := by
  have h := decN_isD n
  match hd : decN n with
  | [] => rfl
  | c :: t =>
    have hc : isD c = true := h c (by rw [hd]; simp)
    rw [bodyW_cons, if_neg]
    rintro rfl
    exact absurd hc (by decide)
theorem bodyW_decZ (z : Int) : bodyW (decZ z) = decN z.natAbs := by
  unfold decZ; split
  · rfl
  · exact bodyW_decN _
theorem okW_iff (l : List UInt8) : okW l ↔ ∃ z : Int, l = decZ z ∧ (decN z.natAbs).length ≤ 600 := by
  constructor
  · rintro ⟨h1, h2, h3, h4⟩
    have hd := decN_of h3 h1 fun h => by
      apply Classical.byContradiction; intro hc
      have : 0 < (bodyW l).length := List.length_pos_iff.2 h1
      exact h4 ⟨h, .inl (by omega)⟩
    match l, h1, h2, h3, h4, hd with
    | c :: t, h1, h2, h3, h4, hd =>
      rw [bodyW_cons] at h1 h2 h3 h4 hd
      by_cases hc : c = 45
      · subst hc
        rw [if_pos rfl] at h1 h2 h3 h4 hd
        have hv : valD t ≠ 0 := fun hv => by
          rw [hv] at hd
          refine h4 ⟨by rw [hd]; rfl, .inr ?_⟩
          have := List.length_pos_iff.2 h1
          show 1 < t.length + 1
          omega
        refine ⟨-(valD t : Int), ?_, by rw [Int.natAbs_neg, Int.natAbs_natCast, ← hd]; exact h2⟩
        unfold decZ
        rw [if_pos (by omega), Int.natAbs_neg, Int.natAbs_natCast, ← hd]
      · rw [if_neg hc] at h1 h2 h3 h4 hd
        refine ⟨(valD (c :: t) : Int), ?_, by rw [Int.natAbs_natCast, ← hd]; exact h2⟩
        unfold decZ
        rw [if_neg (by omega), Int.natAbs_natCast, ← hd]
  · rintro ⟨z, rfl, hz⟩
    unfold okW
    rw [bodyW_decZ]
    refine ⟨decN_ne _, hz, decN_isD _, ?_⟩
    rintro ⟨h, h2⟩
    by_cases h0 : z.natAbs = 0
    · have : z = 0 := by omega
      subst this
      exact absurd h2 (by decide)
    · obtain ⟨d, d1, d2, hd⟩ := decN_head h0
      rw [hd] at h
      have := congrArg UInt8.toNat (Option.some.inj h)
      rw [dch_toNat (by omega)] at this
      have h48 : (48 : UInt8).toNat = 48 := rfl
      omega
theorem head48 {l : List UInt8} (h : l ≠ []) : byteAt l 0 = 48 ↔ l.head? = some 48 := by
  match l, h with
  | c :: t, _ =>
    show ((c.toNat : Nat) : Int) = 48 ↔ some c = some 48
    constructor
    · intro hc
      have : c = 48 := by apply UInt8.toNat_inj.1; show c.toNat = 48; omega
      rw [this]
    · intro hc; rw [Option.some.inj hc]; rfl
theorem check_pure (l : List UInt8) (hl : l.length < 4611686018427387904) : Pure Tryz.prog 93 [.str l] (fun o => ∃ r : Int, o = .ret (i64 r) ∧ (r = 0 ∨ r = 10) ∧ (r = 0 ↔ okW l)) := by
  refine pure_of Tryz.func93 rfl 200 ?_
  have hbl := bodyW_len l
  conv => whnf
  refine callF1 (tpre_pure l) rfl rfl ?_
  conv => whnf
  refine branchI (fun h1 => ?_) (fun h1 => ?_)
  · have h1 : (bodyW l == []) = true := h1
    have h1' : bodyW l = [] := by simpa using h1
    conv => whnf
    exact ⟨10, rfl, .inr rfl, by constructor; · { intro h; cases h }; · { intro h; exact absurd h1' h.1 }⟩
  · have h1 : (bodyW l == []) = false := h1
    have h1' : bodyW l ≠ [] := by simpa using h1
    have hp : 0 < (bodyW l).length := List.length_pos_iff.2 h1'
    conv => whnf
    refine branchI (fun h2 => ?_) (fun h2 => ?_)
    · have h2 : decide ((600 : Int) < ((bodyW l).length : Int)) = true := h2
      have h2' := of_decide_eq_true h2
      conv => whnf
      exact ⟨10, rfl, .inr rfl, by constructor; · { intro h; cases h }; · { intro h; have := h.2.1; omega }⟩
    · have h2 : decide ((600 : Int) < ((bodyW l).length : Int)) = false := h2
      have h2' := of_decide_eq_false h2
      conv => whnf
      refine callF ((index_other (bodyW l) (by omega))) rfl ?_
      rintro o ⟨r, rfl, hr⟩
      refine ⟨rfl, ?_⟩
      conv => whnf
      refine branchI (fun h3 => ?_) (fun h3 => ?_)
      · have h3 : decide (0 ≤ r) = true := h3
        have h3' := of_decide_eq_true h3
        conv => whnf
        exact ⟨10, rfl, .inr rfl, by constructor; · { intro h; cases h }; · { intro h; exact absurd h.2.2.1 (hr.1 h3') }⟩
      · have h3 : decide (0 ≤ r) = false := h3
        have h3' := of_decide_eq_false h3
        have hall : ∀ c ∈ bodyW l, isD c = true := Classical.byContradiction fun h => h3' (hr.2 h)
        conv => whnf
        refine branchT (by rw [Bool.and_eq_true]; exact ⟨rfl, decide_eq_true (by omega)⟩) ?_
        conv => whnf
        refine branchI (fun h4 => ?_) (fun h4 => ?_)
        · have h4 : (byteAt (bodyW l) 0 == 48) = true := h4
          have h4' := (head48 h1').1 (eq_of_beq h4)
          conv => whnf
          refine branchI (fun h5 => ?_) (fun h5 => ?_)
          · have h5 : decide ((1 : Int) < ((bodyW l).length : Int)) = true := h5
            have h5' := of_decide_eq_true h5
            conv => whnf
            exact ⟨10, rfl, .inr rfl, by constructor; · { intro h; cases h }; · { intro h; exact absurd ⟨h4', .inl (by omega)⟩ h.2.2.2 }⟩
          · have h5 : decide ((1 : Int) < ((bodyW l).length : Int)) = false := h5
            have h5' := of_decide_eq_false h5
            conv => whnf
            refine branchI (fun h6 => ?_) (fun h6 => ?_)
            · have h6 : decide ((1 : Int) < (l.length : Int)) = true := h6
              have h6' := of_decide_eq_true h6
              conv => whnf
              exact ⟨10, rfl, .inr rfl, by constructor; · { intro h; cases h }; · { intro h; exact absurd ⟨h4', .inr (by omega)⟩ h.2.2.2 }⟩
            · have h6 : decide ((1 : Int) < (l.length : Int)) = false := h6
              have h6' := of_decide_eq_false h6
              conv => whnf
              refine ⟨0, rfl, .inl rfl, iff_of_true rfl ⟨h1', by omega, hall, ?_⟩⟩
              rintro ⟨-, h | h⟩ <;> omega
        · have h4 : (byteAt (bodyW l) 0 == 48) = false := h4
          have h4' : ¬ (bodyW l).head? = some 48 := fun h => by rw [(head48 h1').2 h] at h4; cases h4
          conv => whnf
          refine ⟨0, rfl, .inl rfl, iff_of_true rfl ⟨h1', by omega, hall, ?_⟩⟩
          rintro ⟨h, -⟩; exact h4' h
/-- .. of a text that is a number's. -/
theorem check_ok (z : Int) (hz : (decN z.natAbs).length ≤ 600) : Pure Tryz.prog 93 [.str (decZ z)] (fun o => o = .ret (i64 0)) := by
  have hb := bodyW_len (decZ z)
  have hl : (decZ z).length ≤ 601 := by
    unfold decZ; split
    · rw [List.length_cons]; omega
    · omega
  refine (check_pure (decZ z) (by omega)).mono fun o ⟨r, ho, _, hr⟩ => ?_
  rw [ho, hr.2 ((okW_iff _).2 ⟨z, rfl, hz⟩)]
end Go.Proofs.YtkhbmendaapojaaGreatDoor
/- Decimal texts of the library: how many digits. -/
namespace Go.Proofs.YtkhbmendaapojaaGreatDoor
open Go Go.Vx Go.Num
set_option maxRecDepth 100000
attribute [local irreducible] CallV LoopV CodeV
theorem shr_eq (n k : Nat) (hk : k < 64) : ((n : Int)).fdiv (2 ^ min (Int.toNat (k : Int)) IntKind.u64.bits) = ((n / 2 ^ k : Nat) : Int) := by
  have : min (Int.toNat (k : Int)) IntKind.u64.bits = k := by simp [IntKind.bits]; omega
  rw [this, Int.fdiv_eq_ediv_of_nonneg _ (by exact Int.le_of_lt (Int.pow_pos (by omega)))]
  rw [show ((2 : Int) ^ k) = ((2 ^ k : Nat) : Int) by simp]
  exact (Int.natCast_ediv _ _).symm
theorem shr32 (n : Nat) : ((n : Int)).fdiv (2 ^ min (Int.toNat 32) IntKind.u64.bits) = ((n / 4294967296 : Nat) : Int) := shr_eq n 32 (by omega)
theorem shr16 (n : Nat) : ((n : Int)).fdiv (2 ^ min (Int.toNat 16) IntKind.u64.bits) = ((n / 65536 : Nat) : Int) := shr_eq n 16 (by omega)
theorem shr8 (n : Nat) : ((n : Int)).fdiv (2 ^ min (Int.toNat 8) IntKind.u64.bits) = ((n / 256 : Nat) : Int) := shr_eq n 8 (by omega)
theorem u8_in {x : Int} (h : 0 ≤ x ∧ x < 256) : IntKind.u8.wrap x = x := by
  unfold IntKind.wrap
  simp [IntKind.bits, IntKind.signed]
  omega
theorem nl_div {b : Nat} (hb : 2 ≤ b) {n k : Nat} (h : b ^ k ≤ n) : nl b n = k + nl b (n / b ^ k) := by
  have h1 : nl b (n / b ^ k) + k ≤ nl b n := by
    apply Classical.byContradiction; intro hc
    by_cases hz : nl b (n / b ^ k) = 0
    · have := (nl_lt hb).2 h; omega
    · obtain ⟨j, hj⟩ : ∃ j, nl b (n / b ^ k) = j + 1 := ⟨nl b (n / b ^ k) - 1, by omega⟩
      have h2 := (nl_lt hb).1 (show j < nl b (n / b ^ k) by omega)
      have h3 : nl b n ≤ j + k := by omega
      have h4 := (nl_le hb).1 h3
      rw [Nat.pow_add] at h4
      have := (Nat.div_lt_iff_lt_mul (Nat.pow_pos (by omega))).2 h4
      omega
  have h5 : nl b n ≤ k + nl b (n / b ^ k) := by
    rw [nl_le hb, Nat.add_comm, Nat.pow_add]
    exact (Nat.div_lt_iff_lt_mul (Nat.pow_pos (by omega))).1 (lt_pow_nl hb _)
  omega
theorem nl_div1 {n : Nat} {k c : Nat} (hc : c = 2 ^ k) (h : c ≤ n) : nl 2 n = k + nl 2 (n / c) := by subst hc; exact nl_div (by omega) h
def len8L : List UInt8 := (List.range 256).map fun i => UInt8.ofNat (nl 2 i)
theorem len8_at {l : List UInt8} (hl : l = len8L) {m : Nat} (hm : m < 256) : byteAt l m = (nl 2 m : Nat) := by
  subst hl
  unfold byteAt len8L
  rw [List.getD_eq_getElem?_getD, List.getElem?_map, List.getElem?_range hm]
  simp only [Option.map_some, Option.getD_some]
  rw [UInt8.toNat_ofNat', Nat.mod_eq_of_lt (Nat.lt_of_le_of_lt ((nl_le (by omega)).2 (show m < 2 ^ 8 by omega)) (by omega))]
theorem len_guard {m : Nat} (hm : m < 256) (l : List UInt8) (hl : l = len8L) : (decide (0 ≤ (m : Int)) && decide ((m : Int) < (l.length : Int))) = true := by
  have : l.length = 256 := by rw [hl]; simp [len8L]
  rw [this]; exact guardI (by omega)
theorem len_leaf {l : List UInt8} (hl : l = len8L) {n k m : Nat} (hm : m < 256) (hk : k ≤ 56) (hn : nl 2 n = k + nl 2 m) {x kk : Int} (hx : x = (m : Int)) (hkk : kk = (k : Int)) :
    IntKind.i64.wrap (kk + IntKind.i64.wrap (byteAt l (IntKind.u8.wrap x).toNat)) = (nl 2 n : Nat) := by
  have h8 : nl 2 m ≤ 8 := (nl_le (by omega)).2 (by omega)
  rw [hx, hkk, u8_in (by omega), show ((m : Int)).toNat = m from rfl, len8_at hl hm, w64_in (x := (nl 2 m : Nat)) (by omega), w64_in (by omega), hn]
  omega
theorem len64_pure (n : Nat) (h : n < 18446744073709551616) : Pure Tryz.prog 129 [u64 n] (fun o => o = .ret (i64 (nl 2 n))) := by
  refine pure_of Tryz.func129 rfl 100 ?_
  conv => whnf
  refine branchI (fun h1 => ?_) (fun h1 => ?_)
  · have hx0 : (n : Int) = ((n : Nat) : Int) := by rfl
    have h1 : decide (4294967296 ≤ (n : Int)) = true := h1
    rw [hx0] at h1
    have h1 : 4294967296 ≤ n := by have := of_decide_eq_true h1; omega
    conv => whnf
    refine branchI (fun h2 => ?_) (fun h2 => ?_)
    · have hx1 : ((n : Int)).fdiv (2 ^ min (Int.toNat 32) IntKind.u64.bits) = ((n / 4294967296 : Nat) : Int) := by rw [shr32]
      have h2 : decide (65536 ≤ ((n : Int)).fdiv (2 ^ min (Int.toNat 32) IntKind.u64.bits)) = true := h2
      rw [hx1] at h2
      have h2 : 65536 ≤ n / 4294967296 := by have := of_decide_eq_true h2; omega
      conv => whnf
      refine branchI (fun h3 => ?_) (fun h3 => ?_)
      · have hx2 : (((n : Int)).fdiv (2 ^ min (Int.toNat 32) IntKind.u64.bits)).fdiv (2 ^ min (Int.toNat 16) IntKind.u64.bits) = ((n / 4294967296 / 65536 : Nat) : Int) := by rw [shr32, shr16]
        have h3 : decide (256 ≤ (((n : Int)).fdiv (2 ^ min (Int.toNat 32) IntKind.u64.bits)).fdiv (2 ^ min (Int.toNat 16) IntKind.u64.bits)) = true := h3
        rw [hx2] at h3
        have h3 : 256 ≤ n / 4294967296 / 65536 := by have := of_decide_eq_true h3; omega
        conv => whnf
        have hx : ((((n : Int)).fdiv (2 ^ min (Int.toNat 32) IntKind.u64.bits)).fdiv (2 ^ min (Int.toNat 16) IntKind.u64.bits)).fdiv (2 ^ min (Int.toNat 8) IntKind.u64.bits) = ((n / 4294967296 / 65536 / 256 : Nat) : Int) := by rw [shr32, shr16, shr8]
        have hm : n / 4294967296 / 65536 / 256 < 256 := by omega
        refine branchT (by rw [hx, u8_in (by omega)]; exact len_guard hm _ (by kernel_rfl)) ?_
        conv => whnf
        have e0 := nl_div1 (n := n) (k := 32) (c := 4294967296) (by decide) h1
        have e1 := nl_div1 (n := n / 4294967296) (k := 16) (c := 65536) (by decide) h2
        have e2 := nl_div1 (n := n / 4294967296 / 65536) (k := 8) (c := 256) (by decide) h3
        exact retI (len_leaf (k := 56) (by kernel_rfl) hm (by omega) (by omega) hx (by rfl))
      · have hx2 : (((n : Int)).fdiv (2 ^ min (Int.toNat 32) IntKind.u64.bits)).fdiv (2 ^ min (Int.toNat 16) IntKind.u64.bits) = ((n / 4294967296 / 65536 : Nat) : Int) := by rw [shr32, shr16]
        have h3 : decide (256 ≤ (((n : Int)).fdiv (2 ^ min (Int.toNat 32) IntKind.u64.bits)).fdiv (2 ^ min (Int.toNat 16) IntKind.u64.bits)) = false := h3
        rw [hx2] at h3
        have h3 : ¬ 256 ≤ n / 4294967296 / 65536 := by have := of_decide_eq_false h3; omega
        conv => whnf
        have hx : (((n : Int)).fdiv (2 ^ min (Int.toNat 32) IntKind.u64.bits)).fdiv (2 ^ min (Int.toNat 16) IntKind.u64.bits) = ((n / 4294967296 / 65536 : Nat) : Int) := by rw [shr32, shr16]
        have hm : n / 4294967296 / 65536 < 256 := by omega
        refine branchT (by rw [hx, u8_in (by omega)]; exact len_guard hm _ (by kernel_rfl)) ?_
        conv => whnf
        have e0 := nl_div1 (n := n) (k := 32) (c := 4294967296) (by decide) h1
        have e1 := nl_div1 (n := n / 4294967296) (k := 16) (c := 65536) (by decide) h2
        exact retI (len_leaf (k := 48) (by kernel_rfl) hm (by omega) (by omega) hx (by rfl))
    · have hx1 : ((n : Int)).fdiv (2 ^ min (Int.toNat 32) IntKind.u64.bits) = ((n / 4294967296 : Nat) : Int) := by rw [shr32]
      have h2 : decide (65536 ≤ ((n : Int)).fdiv (2 ^ min (Int.toNat 32) IntKind.u64.bits)) = false := h2
      rw [hx1] at h2
      have h2 : ¬ 65536 ≤ n / 4294967296 := by have := of_decide_eq_false h2; omega
      conv => whnf
      refine branchI (fun h3 => ?_) (fun h3 => ?_)
      · have hx2 : ((n : Int)).fdiv (2 ^ min (Int.toNat 32) IntKind.u64.bits) = ((n / 4294967296 : Nat) : Int) := by rw [shr32]
        have h3 : decide (256 ≤ ((n : Int)).fdiv (2 ^ min (Int.toNat 32) IntKind.u64.bits)) = true := h3
        rw [hx2] at h3
        have h3 : 256 ≤ n / 4294967296 := by have := of_decide_eq_true h3; omega
        conv => whnf
        have hx : (((n : Int)).fdiv (2 ^ min (Int.toNat 32) IntKind.u64.bits)).fdiv (2 ^ min (Int.toNat 8) IntKind.u64.bits) = ((n / 4294967296 / 256 : Nat) : Int) := by rw [shr32, shr8]
        have hm : n / 4294967296 / 256 < 256 := by omega
        refine branchT (by rw [hx, u8_in (by omega)]; exact len_guard hm _ (by kernel_rfl)) ?_
        conv => whnf
        have e0 := nl_div1 (n := n) (k := 32) (c := 4294967296) (by decide) h1
        have e1 := nl_div1 (n := n / 4294967296) (k := 8) (c := 256) (by decide) h3
        exact retI (len_leaf (k := 40) (by kernel_rfl) hm (by omega) (by omega) hx (by rfl))
      · have hx2 : ((n : Int)).fdiv (2 ^ min (Int.toNat 32) IntKind.u64.bits) = ((n / 4294967296 : Nat) : Int) := by rw [shr32]
        have h3 : decide (256 ≤ ((n : Int)).fdiv (2 ^ min (Int.toNat 32) IntKind.u64.bits)) = false := h3
        rw [hx2] at h3
        have h3 : ¬ 256 ≤ n / 4294967296 := by have := of_decide_eq_false h3; omega
        conv => whnf
        have hx : ((n : Int)).fdiv (2 ^ min (Int.toNat 32) IntKind.u64.bits) = ((n / 4294967296 : Nat) : Int) := by rw [shr32]
        have hm : n / 4294967296 < 256 := by omega
        refine branchT (by rw [hx, u8_in (by omega)]; exact len_guard hm _ (by kernel_rfl)) ?_
        conv => whnf
        have e0 := nl_div1 (n := n) (k := 32) (c := 4294967296) (by decide) h1
        exact retI (len_leaf (k := 32) (by kernel_rfl) hm (by omega) (by omega) hx (by rfl))
  · have hx0 : (n : Int) = ((n : Nat) : Int) := by rfl
    have h1 : decide (4294967296 ≤ (n : Int)) = false := h1
    rw [hx0] at h1
    have h1 : ¬ 4294967296 ≤ n := by have := of_decide_eq_false h1; omega
    conv => whnf
    refine branchI (fun h2 => ?_) (fun h2 => ?_)
    · have hx1 : (n : Int) = ((n : Nat) : Int) := by rfl
      have h2 : decide (65536 ≤ (n : Int)) = true := h2
      rw [hx1] at h2
      have h2 : 65536 ≤ n := by have := of_decide_eq_true h2; omega
      conv => whnf
      refine branchI (fun h3 => ?_) (fun h3 => ?_)
      · have hx2 : ((n : Int)).fdiv (2 ^ min (Int.toNat 16) IntKind.u64.bits) = ((n / 65536 : Nat) : Int) := by rw [shr16]
        have h3 : decide (256 ≤ ((n : Int)).fdiv (2 ^ min (Int.toNat 16) IntKind.u64.bits)) = true := h3
        rw [hx2] at h3
        have h3 : 256 ≤ n / 65536 := by have := of_decide_eq_true h3; omega
        conv => whnf
        have hx : (((n : Int)).fdiv (2 ^ min (Int.toNat 16) IntKind.u64.bits)).fdiv (2 ^ min (Int.toNat 8) IntKind.u64.bits) = ((n / 65536 / 256 : Nat) : Int) := by rw [shr16, shr8]
        have hm : n / 65536 / 256 < 256 := by omega
        refine branchT (by rw [hx, u8_in (by omega)]; exact len_guard hm _ (by kernel_rfl)) ?_
        conv => whnf
        have e0 := nl_div1 (n := n) (k := 16) (c := 65536) (by decide) h2
        have e1 := nl_div1 (n := n / 65536) (k := 8) (c := 256) (by decide) h3
        exact retI (len_leaf (k := 24) (by kernel_rfl) hm (by omega) (by omega) hx (by rfl))
      · have hx2 : ((n : Int)).fdiv (2 ^ min (Int.toNat 16) IntKind.u64.bits) = ((n / 65536 : Nat) : Int) := by rw [shr16]
        have h3 : decide (256 ≤ ((n : Int)).fdiv (2 ^ min (Int.toNat 16) IntKind.u64.bits)) = false := h3
        rw [hx2] at h3
        have h3 : ¬ 256 ≤ n / 65536 := by have := of_decide_eq_false h3; omega
        conv => whnf
        have hx : ((n : Int)).fdiv (2 ^ min (Int.toNat 16) IntKind.u64.bits) = ((n / 65536 : Nat) : Int) := by rw [shr16]
        have hm : n / 65536 < 256 := by omega
        refine branchT (by rw [hx, u8_in (by omega)]; exact len_guard hm _ (by kernel_rfl)) ?_
        conv => whnf
        have e0 := nl_div1 (n := n) (k := 16) (c := 65536) (by decide) h2
        exact retI (len_leaf (k := 16) (by kernel_rfl) hm (by omega) (by omega) hx (by rfl))
    · have hx1 : (n : Int) = ((n : Nat) : Int) := by rfl
      have h2 : decide (65536 ≤ (n : Int)) = false := h2
      rw [hx1] at h2
      have h2 : ¬ 65536 ≤ n := by have := of_decide_eq_false h2; omega
      conv => whnf
      refine branchI (fun h3 => ?_) (fun h3 => ?_)
      · have hx2 : (n : Int) = ((n : Nat) : Int) := by rfl
        have h3 : decide (256 ≤ (n : Int)) = true := h3
        rw [hx2] at h3
        have h3 : 256 ≤ n := by have := of_decide_eq_true h3; omega
        conv => whnf
        have hx : ((n : Int)).fdiv (2 ^ min (Int.toNat 8) IntKind.u64.bits) = ((n / 256 : Nat) : Int) := by rw [shr8]
        have hm : n / 256 < 256 := by omega
        refine branchT (by rw [hx, u8_in (by omega)]; exact len_guard hm _ (by kernel_rfl)) ?_
        conv => whnf
        have e0 := nl_div1 (n := n) (k := 8) (c := 256) (by decide) h3
        exact retI (len_leaf (k := 8) (by kernel_rfl) hm (by omega) (by omega) hx (by rfl))
      · have hx2 : (n : Int) = ((n : Nat) : Int) := by rfl
        have h3 : decide (256 ≤ (n : Int)) = false := h3
        rw [hx2] at h3
        have h3 : ¬ 256 ≤ n := by have := of_decide_eq_false h3; omega
        conv => whnf
        have hx : (n : Int) = ((n : Nat) : Int) := by rfl
        have hm : n < 256 := by omega
        refine branchT (by rw [hx, u8_in (by omega)]; exact len_guard hm _ (by kernel_rfl)) ?_
        conv => whnf
        exact retI (len_leaf (k := 0) (by kernel_rfl) hm (by omega) (by omega) hx (by rfl))
theorem log10_pure (n : Nat) (h : n < 65) : Pure Tryz.prog 128 [i64 n] (fun o => o = .ret (i64 (n * 78913 / 262144 : Nat))) := by
  refine pure_of Tryz.func128 rfl 100 ?_
  conv => whnf
  refine retI ?_
  rw [w64_in (by omega), show min (Int.toNat 18) IntKind.i64.bits = 18 by simp [IntKind.bits], show ((n : Int) * 78913) = ((n * 78913 : Nat) : Int) by simp, Int.fdiv_eq_ediv_of_nonneg _ (by decide)]
  omega
theorem bool2_pure (b : Bool) : Pure Tryz.prog 130 [.bool b] (fun o => o = .ret (i64 (if b then 1 else 0))) := by
  refine pure_of Tryz.func130 rfl 100 ?_
  conv => whnf
  cases b
  · conv => whnf
    rfl
  · conv => whnf
    rfl
theorem pow_tab : ∀ k, k < 20 → ([1, 10, 100, 1000, 10000, 100000, 1000000, 10000000, 100000000, 1000000000, 10000000000, 100000000000, 1000000000000, 10000000000000, 100000000000000, 1000000000000000, 10000000000000000, 100000000000000000, 1000000000000000000, 10000000000000000000] : List Int).getD k 0 = ((10 ^ k : Nat) : Int) := by decide
theorem log_tab : ∀ L, L < 65 → 1 ≤ L → 2 ^ L ≤ 10 ^ (L * 78913 / 262144 + 1) ∧ (1 ≤ L * 78913 / 262144 → 10 ^ (L * 78913 / 262144 - 1) ≤ 2 ^ (L - 1)) ∧ L * 78913 / 262144 < 20 := by decide
theorem digits_eq {n : Nat} (h0 : 0 < n) (h : n < 18446744073709551616) : nl 2 n * 78913 / 262144 < 20 ∧ nl 10 n = nl 2 n * 78913 / 262144 + if 10 ^ (nl 2 n * 78913 / 262144) ≤ n then 1 else 0 := by
  have hl : nl 2 n ≤ 64 := (nl_le (by omega)).2 (by omega)
  have hp := nl_pos (b := 2) (by omega) (show n ≠ 0 by omega)
  obtain ⟨t1, t2, t3⟩ := log_tab (nl 2 n) (by omega) hp
  have b1 := lt_pow_nl (b := 2) (by omega) n
  have b2 : 2 ^ (nl 2 n - 1) ≤ n := (nl_lt (by omega)).1 (by omega)
  refine ⟨t3, ?_⟩
  generalize nl 2 n * 78913 / 262144 = k at *
  have u1 : nl 10 n ≤ k + 1 := (nl_le (by omega)).2 (Nat.lt_of_lt_of_le b1 t1)
  by_cases hk : 10 ^ k ≤ n
  · rw [if_pos hk]
    have := (nl_lt (b := 10) (by omega)).2 hk
    omega
  · rw [if_neg hk]
    have u2 : nl 10 n ≤ k := (nl_le (by omega)).2 (by omega)
    by_cases hk0 : 1 ≤ k
    · have := (nl_lt (b := 10) (by omega)).2 (Nat.le_trans (t2 hk0) b2)
      omega
    · have := nl_pos (b := 10) (by omega) (show n ≠ 0 by omega)
      omega
theorem numDigits_pure (n : Nat) (h0 : 0 < n) (h : n < 18446744073709551616) : Pure Tryz.prog 104 [u64 n] (fun o => o = .ret (i64 (nl 10 n))) := by
  refine pure_of Tryz.func104 rfl 100 ?_
  obtain ⟨t3, te⟩ := digits_eq h0 h
  have hl : nl 2 n ≤ 64 := (nl_le (by omega)).2 (by omega)
  conv => whnf
  refine callF1 (len64_pure n h) rfl rfl ?_
  conv => whnf
  refine callF1 (log10_pure (nl 2 n) (by omega)) rfl rfl ?_
  conv => whnf
  refine branchT (guardI (by omega)) ?_
  conv => whnf
  refine callF1 (bool2_pure _) rfl rfl ?_
  conv => whnf
  refine retI ?_
  show IntKind.i64.wrap (((nl 2 n * 78913 / 262144 : Nat) : Int) + if decide (([1, 10, 100, 1000, 10000, 100000, 1000000, 10000000, 100000000, 1000000000, 10000000000, 100000000000, 1000000000000, 10000000000000, 100000000000000, 1000000000000000, 10000000000000000, 100000000000000000, 1000000000000000000, 10000000000000000000] : List Int).getD (nl 2 n * 78913 / 262144 * 1) 0 ≤ (n : Int)) = true then 1 else 0) = _
  rw [Nat.mul_one, pow_tab _ t3, te]
  by_cases hc : 10 ^ (nl 2 n * 78913 / 262144) ≤ n
  · rw [if_pos (decide_eq_true (by omega)), if_pos hc, w64_in (by omega)]; omega
  · rw [if_neg (fun hd => hc (by have := of_decide_eq_true hd; omega)), if_neg hc, w64_in (by omega)]; omega
end Go.Proofs.YtkhbmendaapojaaGreatDoor
