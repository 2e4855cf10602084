/- The reference: far, place, Normal. (Printed by rpgen.py.) The reference: shapes. (Printed by rsgen.py.) Plain laws: places of edges, and the map; the faces that a list reaches. The reference: Flaw. (Printed by rfgen.py.) Flaw, Check: of the program and of the reference. -/
import Derived.Test.YtkhbmendaapojaaGreatDoorPkBa14
set_option linter.unusedSimpArgs false
set_option linter.unusedVariables false
/- The reference: far, place, Normal. (Printed by rpgen.py.) -/
namespace Go.Proofs.YtkhbmendaapojaaGreatDoor
open Go Go.Vx
set_option maxRecDepth 100000
attribute [local irreducible] CallV LoopV CodeV
abbrev meshV (np : Nat) (P : Nat → Nat → Int) (nf : Nat) (F : Nat → Nat → Int) : V := .agg [rows3 np P, rows3 nf F]
theorem rfar_pure (a0 a1 a2 : Int) : Pure Tryz.prog 54 [pt a0 a1 a2] (fun o => o = .ret (.bool (far3 a0 a1 a2))) := by
  refine pure_of Tryz.func54 rfl 200 ?_
  conv => whnf
  refine loop_unroll Tryz.eok 100 5 ?_
  conv => whnf
  refine branchI (fun h0 => ?_) (fun h0 => ?_)
  · conv => whnf
    exact retB (by simp only [far3, farB, h0, Bool.true_or, Bool.or_true, Bool.or_self, Bool.false_or])
  conv => whnf
  refine branchI (fun g0 => ?_) (fun g0 => ?_)
  · have g0 : decide (200000 < a0) = true := g0
    conv => whnf
    exact retB (by simp only [far3, farB, h0, g0, Bool.true_or, Bool.or_true, Bool.or_self, Bool.false_or])
  have g0 : decide (200000 < a0) = false := g0
  conv => whnf
  refine branchI (fun h1 => ?_) (fun h1 => ?_)
  · conv => whnf
    exact retB (by simp only [far3, farB, h0, g0, h1, Bool.true_or, Bool.or_true, Bool.or_self, Bool.false_or])
  conv => whnf
  refine branchI (fun g1 => ?_) (fun g1 => ?_)
  · have g1 : decide (200000 < a1) = true := g1
    conv => whnf
    exact retB (by simp only [far3, farB, h0, g0, h1, g1, Bool.true_or, Bool.or_true, Bool.or_self, Bool.false_or])
  have g1 : decide (200000 < a1) = false := g1
  conv => whnf
  refine branchI (fun h2 => ?_) (fun h2 => ?_)
  · conv => whnf
    exact retB (by simp only [far3, farB, h0, g0, h1, g1, h2, Bool.true_or, Bool.or_true, Bool.or_self, Bool.false_or])
  conv => whnf
  refine branchI (fun g2 => ?_) (fun g2 => ?_)
  · have g2 : decide (200000 < a2) = true := g2
    conv => whnf
    exact retB (by simp only [far3, farB, h0, g0, h1, g1, h2, g2, Bool.true_or, Bool.or_true, Bool.or_self, Bool.false_or])
  have g2 : decide (200000 < a2) = false := g2
  conv => whnf
  exact retB (by simp only [far3, farB, h0, g0, h1, g1, h2, g2, Bool.or_self])
def edgeF (F : Nat → Nat → Int) (a b : Int) (f : Nat) : Bool := (F f 0 == a && F f 1 == b) || ((F f 1 == a && F f 2 == b) || (F f 2 == a && F f 0 == b))
def plc (F : Nat → Nat → Int) (a b : Int) (n : Nat) : Option Nat := first (edgeF F a b) 0 n
theorem rplace_pure (np : Nat) (P : Nat → Nat → Int) (nf : Nat) (F : Nat → Nat → Int) (a b : Int) (n : Nat) (hn : n ≤ nf) (hnf : nf < 4611686018427387904) :
    Pure Tryz.prog 58 [meshV np P nf F, i64 a, i64 b, i64 n] (fun o => o = .ret (i64 (placeO (plc F a b n)))) := by
  refine pure_of Tryz.func58 rfl 200 ?_
  conv => whnf
  refine loop_inv Tryz.eok 180 (fun i : Nat => i ≤ n ∧ plc F a b n = first (edgeF F a b) i (n - i)) (fun i => n - i)
    (fun i => slots [(1, i64 a), (2, i64 b), (3, i64 n), (4, .ptr 0 0 0), (9, i64 i)] 0 43) (fun _ => [.fix 24 [rows3 np P, rows3 nf F]]) 0 [] ⟨Nat.zero_le _, rfl⟩ (by repeat' constructor) rfl ?_
  rintro k ⟨hk, hf⟩
  conv => whnf
  refine branchI (fun hl => ?_) (fun hl => ?_)
  · simp at hl
    rw [first_step hl] at hf
    have hin : (decide (0 ≤ (k : Int)) && decide ((k : Int) < (nf : Int))) = true := guardI ⟨by omega, by omega⟩
    have yes : edgeF F a b k = true → placeO (plc F a b n) = (k : Int) := fun h => by rw [hf, if_pos h]; rfl
    have no : edgeF F a b k = false → plc F a b n = first (edgeF F a b) (k + 1) (n - (k + 1)) := fun h => by rw [hf, if_neg (by rw [h]; simp)]
    conv => whnf
    refine loop_unroll Tryz.eok 100 5 ?_
    conv => whnf
    refine branchT hin ?_
    conv => whnf
    refine branchI (fun a0 => ?_) (fun a0 => ?_)
    · have a0 : (F k 0 == a) = true := a0
      conv => whnf
      refine branchT hin ?_
      conv => whnf
      refine branchI (fun b0 => ?_) (fun b0 => ?_)
      · have b0 : (F k 1 == b) = true := b0
        conv => whnf
        exact retI (yes (by simp only [edgeF, a0, b0, Bool.and_self, Bool.true_or, Bool.or_true])).symm
      · have b0 : (F k 1 == b) = false := b0
        conv => whnf
        refine branchT hin ?_
        conv => whnf
        refine branchI (fun a1 => ?_) (fun a1 => ?_)
        · have a1 : (F k 1 == a) = true := a1
          conv => whnf
          refine branchT hin ?_
          conv => whnf
          refine branchI (fun b1 => ?_) (fun b1 => ?_)
          · have b1 : (F k 2 == b) = true := b1
            conv => whnf
            exact retI (yes (by simp only [edgeF, a0, b0, a1, b1, Bool.and_self, Bool.true_or, Bool.or_true])).symm
          · have b1 : (F k 2 == b) = false := b1
            conv => whnf
            refine branchT hin ?_
            conv => whnf
            refine branchI (fun a2 => ?_) (fun a2 => ?_)
            · have a2 : (F k 2 == a) = true := a2
              conv => whnf
              refine branchT hin ?_
              conv => whnf
              refine branchI (fun b2 => ?_) (fun b2 => ?_)
              · have b2 : (F k 0 == b) = true := b2
                conv => whnf
                exact retI (yes (by simp only [edgeF, a0, b0, a1, b1, a2, b2, Bool.and_self, Bool.true_or, Bool.or_true])).symm
              · have b2 : (F k 0 == b) = false := b2
                conv => whnf
                refine ⟨rfl, k + 1, [], ⟨hl, no (by simp only [edgeF, a0, b0, a1, b1, a2, b2, Bool.false_and, Bool.and_false, Bool.true_and, Bool.or_false])⟩, by omega, rfl, ?_⟩
                repeat' constructor
                exact w64_nat (by omega)
            · have a2 : (F k 2 == a) = false := a2
              conv => whnf
              refine ⟨rfl, k + 1, [], ⟨hl, no (by simp only [edgeF, a0, b0, a1, b1, a2, Bool.false_and, Bool.and_false, Bool.true_and, Bool.or_false])⟩, by omega, rfl, ?_⟩
              repeat' constructor
              exact w64_nat (by omega)
        · have a1 : (F k 1 == a) = false := a1
          conv => whnf
          refine branchT hin ?_
          conv => whnf
          refine branchI (fun a2 => ?_) (fun a2 => ?_)
          · have a2 : (F k 2 == a) = true := a2
            conv => whnf
            refine branchT hin ?_
            conv => whnf
            refine branchI (fun b2 => ?_) (fun b2 => ?_)
            · have b2 : (F k 0 == b) = true := b2
              conv => whnf
              exact retI (yes (by simp only [edgeF, a0, b0, a1, a2, b2, Bool.and_self, Bool.true_or, Bool.or_true])).symm
            · have b2 : (F k 0 == b) = false := b2
              conv => whnf
              refine ⟨rfl, k + 1, [], ⟨hl, no (by simp only [edgeF, a0, b0, a1, a2, b2, Bool.false_and, Bool.and_false, Bool.true_and, Bool.or_false])⟩, by omega, rfl, ?_⟩
              repeat' constructor
              exact w64_nat (by omega)
          · have a2 : (F k 2 == a) = false := a2
            conv => whnf
            refine ⟨rfl, k + 1, [], ⟨hl, no (by simp only [edgeF, a0, b0, a1, a2, Bool.false_and, Bool.and_false, Bool.true_and, Bool.or_false])⟩, by omega, rfl, ?_⟩
            repeat' constructor
            exact w64_nat (by omega)
    · have a0 : (F k 0 == a) = false := a0
      conv => whnf
      refine branchT hin ?_
      conv => whnf
      refine branchI (fun a1 => ?_) (fun a1 => ?_)
      · have a1 : (F k 1 == a) = true := a1
        conv => whnf
        refine branchT hin ?_
        conv => whnf
        refine branchI (fun b1 => ?_) (fun b1 => ?_)
        · have b1 : (F k 2 == b) = true := b1
          conv => whnf
          exact retI (yes (by simp only [edgeF, a0, a1, b1, Bool.and_self, Bool.true_or, Bool.or_true])).symm
        · have b1 : (F k 2 == b) = false := b1
          conv => whnf
          refine branchT hin ?_
          conv => whnf
          refine branchI (fun a2 => ?_) (fun a2 => ?_)
          · have a2 : (F k 2 == a) = true := a2
            conv => whnf
            refine branchT hin ?_
            conv => whnf
            refine branchI (fun b2 => ?_) (fun b2 => ?_)
            · have b2 : (F k 0 == b) = true := b2
              conv => whnf
              exact retI (yes (by simp only [edgeF, a0, a1, b1, a2, b2, Bool.and_self, Bool.true_or, Bool.or_true])).symm
            · have b2 : (F k 0 == b) = false := b2
              conv => whnf
              refine ⟨rfl, k + 1, [], ⟨hl, no (by simp only [edgeF, a0, a1, b1, a2, b2, Bool.false_and, Bool.and_false, Bool.true_and, Bool.or_false])⟩, by omega, rfl, ?_⟩
              repeat' constructor
              exact w64_nat (by omega)
          · have a2 : (F k 2 == a) = false := a2
            conv => whnf
            refine ⟨rfl, k + 1, [], ⟨hl, no (by simp only [edgeF, a0, a1, b1, a2, Bool.false_and, Bool.and_false, Bool.true_and, Bool.or_false])⟩, by omega, rfl, ?_⟩
            repeat' constructor
            exact w64_nat (by omega)
      · have a1 : (F k 1 == a) = false := a1
        conv => whnf
        refine branchT hin ?_
        conv => whnf
        refine branchI (fun a2 => ?_) (fun a2 => ?_)
        · have a2 : (F k 2 == a) = true := a2
          conv => whnf
          refine branchT hin ?_
          conv => whnf
          refine branchI (fun b2 => ?_) (fun b2 => ?_)
          · have b2 : (F k 0 == b) = true := b2
            conv => whnf
            exact retI (yes (by simp only [edgeF, a0, a1, a2, b2, Bool.and_self, Bool.true_or, Bool.or_true])).symm
          · have b2 : (F k 0 == b) = false := b2
            conv => whnf
            refine ⟨rfl, k + 1, [], ⟨hl, no (by simp only [edgeF, a0, a1, a2, b2, Bool.false_and, Bool.and_false, Bool.true_and, Bool.or_false])⟩, by omega, rfl, ?_⟩
            repeat' constructor
            exact w64_nat (by omega)
        · have a2 : (F k 2 == a) = false := a2
          conv => whnf
          refine ⟨rfl, k + 1, [], ⟨hl, no (by simp only [edgeF, a0, a1, a2, Bool.false_and, Bool.and_false, Bool.true_and, Bool.or_false])⟩, by omega, rfl, ?_⟩
          repeat' constructor
          exact w64_nat (by omega)
  simp at hl
  conv => whnf
  exact retI (by rw [hf, first_end hl]; rfl)
def nrm (P : Nat → Nat → Int) (a b c : Int) : V :=
  let p := P a.toNat; let q := P b.toNat; let r := P c.toNat
  let u0 := w64 (q 0 - p 0); let u1 := w64 (q 1 - p 1); let u2 := w64 (q 2 - p 2)
  let v0 := w64 (r 0 - p 0); let v1 := w64 (r 1 - p 1); let v2 := w64 (r 2 - p 2)
  pt (crossC u1 v2 u2 v1) (crossC u2 v0 u0 v2) (crossC u0 v1 u1 v0)
theorem rnormal_pure (np : Nat) (P : Nat → Nat → Int) (nf : Nat) (F : Nat → Nat → Int) (k : Nat) (hk : k < nf) (hb : badF np (F k 0) (F k 1) (F k 2) = false) :
    Pure Tryz.prog 77 [meshV np P nf F, i64 k] (fun o => o = .ret (nrm P (F k 0) (F k 1) (F k 2))) := by
  have hin : (decide (0 ≤ (k : Int)) && decide ((k : Int) < (nf : Int))) = true := guardI ⟨by omega, by omega⟩
  obtain ⟨b0, b1, b2, _⟩ := badF_false hb
  refine pure_of Tryz.func77 rfl 200 ?_
  conv => whnf
  refine branchT hin ?_
  conv => whnf
  refine branchT (guardI b0) ?_
  conv => whnf
  refine branchT hin ?_
  conv => whnf
  refine branchT (guardI b1) ?_
  conv => whnf
  refine branchT hin ?_
  conv => whnf
  refine branchT (guardI b2) ?_
  conv => whnf
  first | refine callF1 (rminus_pure _ _ _ _ _ _) rfl rfl ?_ | refine ⟨_, _, callD (rminus_pure _ _ _ _ _ _) rfl (.inl rfl), ?_⟩
  conv => whnf
  first | refine callF1 (rminus_pure _ _ _ _ _ _) rfl rfl ?_ | refine ⟨_, _, callD (rminus_pure _ _ _ _ _ _) rfl (.inl rfl), ?_⟩
  conv => whnf
  first | refine callF1 (rcross_pure _ _ _ _ _ _) rfl rfl ?_ | refine ⟨_, _, callD (rcross_pure _ _ _ _ _ _) rfl (.inl rfl), ?_⟩
  conv => whnf
  rfl
end Go.Proofs.YtkhbmendaapojaaGreatDoor
/- The reference: shapes. (Printed by rsgen.py.) -/
namespace Go.Proofs.YtkhbmendaapojaaGreatDoor
open Go Go.Vx
set_option maxRecDepth 100000
attribute [local irreducible] CallV LoopV CodeV
theorem retP {a b : Int} {p : Int × Int} (h : p = (a, b)) : Out.ret (.tup [i64 a, i64 b]) = .ret (.tup [i64 p.1, i64 p.2]) := by rw [h]
theorem badF_of {np : Nat} {a b c : Int} (h : a < 0 ∨ (np : Int) ≤ a ∨ a = b ∨ b < 0 ∨ (np : Int) ≤ b ∨ b = c ∨ c < 0 ∨ (np : Int) ≤ c ∨ c = a) : badF np a b c = true := by
  cases hb : badF np a b c with
  | true => rfl
  | false => have := badF_false hb; omega
theorem badF_not {np : Nat} {a b c : Int} (h : ¬ (a < 0 ∨ (np : Int) ≤ a ∨ a = b ∨ b < 0 ∨ (np : Int) ≤ b ∨ b = c ∨ c < 0 ∨ (np : Int) ≤ c ∨ c = a)) : badF np a b c = false := by
  simp only [badF, Bool.or_eq_false_iff, beq_eq_false_iff_ne, decide_eq_false_iff_not, min3_lt, max3_le]
  omega
theorem shapes_pure (np : Nat) (P : Nat → Nat → Int) (nf : Nat) (F : Nat → Nat → Int) :
    Pure Tryz.prog 57 [meshV np P nf F] (fun o => o = .ret (.tup [i64 (singleS np P nf F).1, i64 (singleS np P nf F).2])) := by
  refine pure_of Tryz.func57 rfl 250 ?_
  conv => whnf
  refine branchI (fun h1 => ?_) (fun h1 => ?_)
  · conv => whnf
    exact retP (by simp at h1; simp [singleS, h1])
  conv => whnf
  refine branchI (fun h2 => ?_) (fun h2 => ?_)
  · conv => whnf
    exact retP (by simp at h2; simp [singleS, h2])
  simp at h1 h2
  conv => whnf
  refine branchI (fun h3 => ?_) (fun h3 => ?_)
  · conv => whnf
    exact retP (by simp at h3; simp [singleS, h3]; omega)
  conv => whnf
  refine branchI (fun h4 => ?_) (fun h4 => ?_)
  · conv => whnf
    exact retP (by simp at h4; simp [singleS, h4]; omega)
  simp at h3 h4
  have hS : singleS np P nf F = (match first (fun i => far3 (P i 0) (P i 1) (P i 2)) 0 np with
      | some i => (2, (i : Int))
      | none => match first (fun i => badF np (F i 0) (F i 1) (F i 2)) 0 nf with
        | some i => (3, (i : Int))
        | none => match first (fun i => flatF P (F i 0) (F i 1) (F i 2)) 0 nf with
          | some i => (4, (i : Int))
          | none => (0, 0)) := by
    simp only [singleS]
    rw [if_neg (by omega), if_neg (by omega)]
    rfl
  conv => whnf
  refine loop_inv Tryz.eok 220 (fun i : Nat => i ≤ np ∧ first (fun i => far3 (P i 0) (P i 1) (P i 2)) 0 np = first (fun i => far3 (P i 0) (P i 1) (P i 2)) i (np - i)) (fun i => np - i)
    (fun i => slots [(1, .ptr 0 0 0), (4, i64 np), (5, i64 i)] 0 93) (fun _ => [.fix 24 [rows3 np P, rows3 nf F]]) 0 [] ⟨Nat.zero_le _, rfl⟩ (by repeat' constructor) rfl ?_
  rintro i ⟨hi, hfi⟩
  conv => whnf
  refine branchI (fun hl => ?_) (fun hl => ?_)
  · simp at hl
    rw [first_step hl] at hfi
    conv => whnf
    refine branchT (by simp; omega) ?_
    conv => whnf
    refine callF1 (rfar_pure _ _ _) rfl rfl ?_
    conv => whnf
    refine branchI (fun hf => ?_) (fun hf => ?_)
    · conv => whnf
      have hf : far3 (P i 0) (P i 1) (P i 2) = true := hf
      rw [if_pos hf] at hfi
      exact retP (by rw [hS, hfi])
    · conv => whnf
      have hf : far3 (P i 0) (P i 1) (P i 2) = false := hf
      rw [if_neg (by rw [hf]; simp)] at hfi
      refine ⟨rfl, i + 1, [], ⟨hl, hfi⟩, by omega, rfl, ?_⟩
      repeat' constructor
      exact w64_nat (by omega)
  simp at hl
  rw [first_end hl] at hfi
  rw [hfi] at hS
  simp only at hS
  conv => whnf
  refine loop_inv Tryz.eok 220 (fun i : Nat => i ≤ nf ∧ first (fun i => badF np (F i 0) (F i 1) (F i 2)) 0 nf = first (fun i => badF np (F i 0) (F i 1) (F i 2)) i (nf - i)) (fun i => nf - i)
    (fun i => slots [(1, .ptr 0 0 0), (4, i64 np), (6, i64 i)] 0 93) (fun _ => [.fix 24 [rows3 np P, rows3 nf F]]) 0 [] ⟨Nat.zero_le _, rfl⟩ (by repeat' constructor) rfl ?_
  rintro k ⟨hk, hfk⟩
  conv => whnf
  refine branchI (fun hl2 => ?_) (fun hl2 => ?_)
  · simp at hl2
    rw [first_step hl2] at hfk
    conv => whnf
    refine branchT (by simp; omega) ?_
    have bad : badF np (F k 0) (F k 1) (F k 2) = true → singleS np P nf F = (3, (k : Int)) := fun hb => by rw [if_pos hb] at hfk; rw [hS, hfk]
    have good : badF np (F k 0) (F k 1) (F k 2) = false → first (fun i => badF np (F i 0) (F i 1) (F i 2)) 0 nf = first (fun i => badF np (F i 0) (F i 1) (F i 2)) (k + 1) (nf - (k + 1)) := fun hb => by rw [if_neg (by rw [hb]; simp)] at hfk; exact hfk
    conv => whnf
    refine loop_unroll Tryz.eok 100 5 ?_
    conv => whnf
    refine branchI (fun c00 => ?_) (fun c00 => ?_)
    · have c00 : decide (F k 0 < 0) = true := c00
      have c00 := of_decide_eq_true c00
      conv => whnf
      exact retP (bad (badF_of (by omega)))
    have c00 : decide (F k 0 < 0) = false := c00
    have c00 := of_decide_eq_false c00
    conv => whnf
    refine branchI (fun c01 => ?_) (fun c01 => ?_)
    · have c01 : decide ((np : Int) ≤ F k 0) = true := c01
      have c01 := of_decide_eq_true c01
      conv => whnf
      exact retP (bad (badF_of (by omega)))
    have c01 : decide ((np : Int) ≤ F k 0) = false := c01
    have c01 := of_decide_eq_false c01
    conv => whnf
    refine branchI (fun c02 => ?_) (fun c02 => ?_)
    · have c02 : (F k 0 == F k 1) = true := c02
      have c02 := eq_of_beq c02
      conv => whnf
      exact retP (bad (badF_of (by omega)))
    have c02 : (F k 0 == F k 1) = false := c02
    have c02 := ne_of_beq_false c02
    conv => whnf
    refine branchI (fun c10 => ?_) (fun c10 => ?_)
    · have c10 : decide (F k 1 < 0) = true := c10
      have c10 := of_decide_eq_true c10
      conv => whnf
      exact retP (bad (badF_of (by omega)))
    have c10 : decide (F k 1 < 0) = false := c10
    have c10 := of_decide_eq_false c10
    conv => whnf
    refine branchI (fun c11 => ?_) (fun c11 => ?_)
    · have c11 : decide ((np : Int) ≤ F k 1) = true := c11
      have c11 := of_decide_eq_true c11
      conv => whnf
      exact retP (bad (badF_of (by omega)))
    have c11 : decide ((np : Int) ≤ F k 1) = false := c11
    have c11 := of_decide_eq_false c11
    conv => whnf
    refine branchI (fun c12 => ?_) (fun c12 => ?_)
    · have c12 : (F k 1 == F k 2) = true := c12
      have c12 := eq_of_beq c12
      conv => whnf
      exact retP (bad (badF_of (by omega)))
    have c12 : (F k 1 == F k 2) = false := c12
    have c12 := ne_of_beq_false c12
    conv => whnf
    refine branchI (fun c20 => ?_) (fun c20 => ?_)
    · have c20 : decide (F k 2 < 0) = true := c20
      have c20 := of_decide_eq_true c20
      conv => whnf
      exact retP (bad (badF_of (by omega)))
    have c20 : decide (F k 2 < 0) = false := c20
    have c20 := of_decide_eq_false c20
    conv => whnf
    refine branchI (fun c21 => ?_) (fun c21 => ?_)
    · have c21 : decide ((np : Int) ≤ F k 2) = true := c21
      have c21 := of_decide_eq_true c21
      conv => whnf
      exact retP (bad (badF_of (by omega)))
    have c21 : decide ((np : Int) ≤ F k 2) = false := c21
    have c21 := of_decide_eq_false c21
    conv => whnf
    refine branchI (fun c22 => ?_) (fun c22 => ?_)
    · have c22 : (F k 2 == F k 0) = true := c22
      have c22 := eq_of_beq c22
      conv => whnf
      exact retP (bad (badF_of (by omega)))
    have c22 : (F k 2 == F k 0) = false := c22
    have c22 := ne_of_beq_false c22
    have hd := good (badF_not (by omega))
    conv => whnf
    refine ⟨rfl, k + 1, [], ⟨hl2, hd⟩, by omega, rfl, ?_⟩
    repeat' constructor
    exact w64_nat (by omega)
  simp at hl2
  rw [first_end hl2] at hfk
  rw [hfk] at hS
  simp only at hS
  have hin : ∀ k, k < nf → badF np (F k 0) (F k 1) (F k 2) = false := fun k hk => first_none hfk k (Nat.zero_le _) (by omega)
  conv => whnf
  refine loop_inv Tryz.eok 220 (fun i : Nat => i ≤ nf ∧ first (fun i => flatF P (F i 0) (F i 1) (F i 2)) 0 nf = first (fun i => flatF P (F i 0) (F i 1) (F i 2)) i (nf - i)) (fun i => nf - i)
    (fun i => slots [(1, .ptr 0 0 0), (4, i64 np), (9, i64 i)] 0 93) (fun _ => [.fix 24 [rows3 np P, rows3 nf F]]) 0 [] ⟨Nat.zero_le _, rfl⟩ (by repeat' constructor) rfl ?_
  rintro m ⟨hm, hfm⟩
  conv => whnf
  refine branchI (fun hl3 => ?_) (fun hl3 => ?_)
  · simp at hl3
    rw [first_step hl3] at hfm
    conv => whnf
    first | refine callF1 (rnormal_pure np P nf F m hl3 (hin m hl3)) rfl rfl ?_ | refine ⟨_, _, callD (rnormal_pure np P nf F m hl3 (hin m hl3)) rfl (.inl rfl), ?_⟩
    conv => whnf
    refine branchI (fun hf => ?_) (fun hf => ?_)
    · have hf : flatF P (F m 0) (F m 1) (F m 2) = true := hf
      conv => whnf
      rw [if_pos hf] at hfm
      exact retP (by rw [hS, hfm])
    have hf : flatF P (F m 0) (F m 1) (F m 2) = false := hf
    rw [if_neg (by rw [hf]; simp)] at hfm
    conv => whnf
    refine ⟨rfl, m + 1, [], ⟨hl3, hfm⟩, by omega, rfl, ?_⟩
    repeat' constructor
    exact w64_nat (by omega)
  simp at hl3
  rw [first_end hl3] at hfm
  rw [hfm] at hS
  conv => whnf
  exact retP (by rw [hS])
end Go.Proofs.YtkhbmendaapojaaGreatDoor
/- Plain laws: places of edges, and the map; the faces that a list reaches. -/
namespace Go.Proofs.YtkhbmendaapojaaGreatDoor
open Go Go.Vx
theorem first_succ (p : Nat → Bool) : ∀ (c i : Nat), first p i (c + 1) = match first p i c with
    | some x => some x
    | none => if p (i + c) then some (i + c) else none
  | 0, i => by simp only [first, Nat.add_zero]
  | c + 1, i => by
    show (if p i then some i else first p (i + 1) (c + 1)) = match (if p i then some i else first p (i + 1) c) with
      | some x => some x
      | none => if p (i + (c + 1)) then some (i + (c + 1)) else none
    by_cases h : p i = true
    · rw [if_pos h, if_pos h]
    · rw [if_neg h, if_neg h, first_succ p c (i + 1), show i + 1 + c = i + (c + 1) by omega]
theorem plc_succ (F : Nat → Nat → Int) (a b : Int) (n : Nat) : plc F a b (n + 1) = match plc F a b n with
    | some x => some x
    | none => if edgeF F a b n then some n else none := by
  unfold plc
  rw [first_succ, Nat.zero_add]
theorem edgeF_iff {F : Nat → Nat → Int} {a b : Int} {n : Nat} : edgeF F a b n = true ↔ ([a, b] = [F n 0, F n 1] ∨ [a, b] = [F n 1, F n 2] ∨ [a, b] = [F n 2, F n 0]) := by
  simp only [edgeF, Bool.or_eq_true, Bool.and_eq_true, beq_iff_eq, List.cons.injEq, and_true]
  constructor
  · rintro (⟨h1, h2⟩ | ⟨h1, h2⟩ | ⟨h1, h2⟩)
    · exact .inl ⟨h1.symm, h2.symm⟩
    · exact .inr (.inl ⟨h1.symm, h2.symm⟩)
    · exact .inr (.inr ⟨h1.symm, h2.symm⟩)
  · rintro (⟨h1, h2⟩ | ⟨h1, h2⟩ | ⟨h1, h2⟩)
    · exact .inl ⟨h1.symm, h2.symm⟩
    · exact .inr (.inl ⟨h1.symm, h2.symm⟩)
    · exact .inr (.inr ⟨h1.symm, h2.symm⟩)
theorem hasM_plc (F : Nat → Nat → Int) (a b : Int) : ∀ n, hasM (mapN F n) [a, b] = (plc F a b n).isSome
  | 0 => rfl
  | n + 1 => by
    rw [plc_succ, mapN, putF, hasM_putM, hasM_putM, hasM_putM, hasM_plc F a b n]
    cases plc F a b n with
    | some x => simp
    | none =>
      cases h : edgeF F a b n with
      | true =>
        rcases edgeF_iff.1 h with h | h | h <;> simp [h]
      | false =>
        have hn : ¬ ([a, b] = [F n 0, F n 1] ∨ [a, b] = [F n 1, F n 2] ∨ [a, b] = [F n 2, F n 0]) := fun hc => by rw [edgeF_iff.2 hc] at h; cases h
        rw [decide_eq_false (fun hc => hn (.inr (.inr hc))), decide_eq_false (fun hc => hn (.inr (.inl hc))), decide_eq_false (fun hc => hn (.inl hc))]
        rfl
/-- The reference's test for an edge that comes twice. -/
def dupR (F : Nat → Nat → Int) (k : Nat) : Bool := (plc F (F k 0) (F k 1) k).isSome || ((plc F (F k 1) (F k 2) k).isSome || (plc F (F k 2) (F k 0) k).isSome)
theorem dup_eq {F : Nat → Nat → Int} {k : Nat} (h : F k 0 ≠ F k 1 ∧ F k 1 ≠ F k 2 ∧ F k 2 ≠ F k 0) : dupF F k (mapN F k) = dupR F k := by
  have e1 : decide ([F k 1, F k 2] = [F k 0, F k 1]) = false := decide_eq_false fun hc => by simp at hc; exact h.1 hc.1.symm
  have e2 : decide ([F k 2, F k 0] = [F k 1, F k 2]) = false := decide_eq_false fun hc => by simp at hc; exact h.2.1 hc.1.symm
  have e3 : decide ([F k 2, F k 0] = [F k 0, F k 1]) = false := decide_eq_false fun hc => by simp at hc; exact h.2.2 hc.1
  rw [dupF, hasM_putM, hasM_putM, hasM_putM, hasM_plc, hasM_plc, hasM_plc, e1, e2, e3, dupR, Bool.false_or, Bool.false_or, Bool.false_or, Bool.or_assoc]
def openR (F : Nat → Nat → Int) (nf k : Nat) : Bool := !(plc F (F k 1) (F k 0) nf).isSome || (!(plc F (F k 2) (F k 1) nf).isSome || !(plc F (F k 0) (F k 2) nf).isSome)
theorem open_eq {F : Nat → Nat → Int} {nf k : Nat} : openF F (mapN F nf) k = openR F nf k := by
  rw [openF, hasM_plc, hasM_plc, hasM_plc, openR, Bool.or_assoc]
theorem findM_plc {F : Nat → Nat → Int} (a b : Int) : ∀ {n : Nat}, (∀ k, k < n → dupF F k (mapN F k) = false) → findM (mapN F n) [a, b] = Option.map (fun i : Nat => (i : Int)) (plc F a b n)
  | 0, _ => rfl
  | n + 1, h => by
    have ih := findM_plc a b (n := n) fun k hk => h k (by omega)
    have hn := h n (by omega)
    rw [plc_succ, mapN, putF, findM_putM, findM_putM, findM_putM, ih]
    simp only [dupF, Bool.or_eq_false_iff, hasM_putM, decide_eq_false_iff_not] at hn
    obtain ⟨⟨n1, -, n2⟩, -, -, n3⟩ := hn
    rw [hasM_plc] at n1 n2 n3
    cases hp : plc F a b n with
    | some x =>
      have hno : ∀ c d, (plc F c d n).isSome = false → [a, b] ≠ [c, d] := by
        intro c d hc he
        simp only [List.cons.injEq, and_true] at he
        rw [← he.1, ← he.2, hp] at hc; cases hc
      rw [if_neg (hno _ _ n3), if_neg (hno _ _ n2), if_neg (hno _ _ n1)]
    | none =>
      cases he : edgeF F a b n with
      | true =>
        rcases edgeF_iff.1 he with q | q | q
        · rw [if_pos q]; by_cases q1 : [a, b] = [F n 2, F n 0]
          · rw [if_pos q1]; rfl
          · rw [if_neg q1]; split <;> rfl
        · rw [if_pos q]; split <;> rfl
        · rw [if_pos q]; rfl
      | false =>
        have hn : ¬ ([a, b] = [F n 0, F n 1] ∨ [a, b] = [F n 1, F n 2] ∨ [a, b] = [F n 2, F n 0]) := fun hc => by rw [edgeF_iff.2 hc] at he; cases he
        rw [if_neg (fun hc => hn (.inr (.inr hc))), if_neg (fun hc => hn (.inr (.inl hc))), if_neg (fun hc => hn (.inl hc))]
        rfl
theorem valOr_plc {F : Nat → Nat → Int} {a b : Int} {n : Nat} (h : ∀ k, k < n → dupF F k (mapN F k) = false) (hs : (plc F a b n).isSome = true) : valOr (mapN F n) [a, b] = placeO (plc F a b n) := by
  unfold valOr
  rw [findM_plc a b h]
  cases hp : plc F a b n with
  | none => rw [hp] at hs; cases hs
  | some x => rfl
theorem first_congr {p q : Nat → Bool} : ∀ {c i : Nat}, (∀ k, i ≤ k → k < i + c → p k = q k) → first p i c = first q i c
  | 0, _, _ => rfl
  | c + 1, i, h => by
    rw [first, first, h i (Nat.le_refl _) (by omega), first_congr (fun k h1 h2 => h k (by omega) (by omega))]

/-- What holds of the reference's list: n faces, of which k were looked at. -/
structure BInv (N : Nat → List Int) (nf : Nat) (R : Nat → Nat → Bool) (n k : Nat) (s : Nat → Nat → Int) : Prop where
  le : k ≤ n
  cnt : n + cntN R nf = nf
  dom : ∀ i, i < n → 0 ≤ s i 0 ∧ s i 0 < nf
  sure : ∀ i, i < n → Reach N (s i 0).toNat
  got : ∀ f, R f 0 = true → ∃ i, i < n ∧ (s i 0).toNat = f
  start : R 0 0 = true
  next : ∀ i, i < k → ∀ g ∈ N (s i 0).toNat, R g.toNat 0 = true
/-- In the midst of a face: the first j neighbours are reached. -/
theorem BInv.push {N nf R n k s} (h : BInv N nf R n k s) {g : Int} (hg : 0 ≤ g ∧ g < nf) (hr : Reach N g.toNat) (hn : R g.toNat 0 = false) {s1 : Nat → Nat → Int} (h1 : ∀ i, i < n → s1 i 0 = s i 0) (h2 : s1 n 0 = g) :
    BInv N nf (up2 R g.toNat 0 true) (n + 1) k s1 := by
  have hle := h.le
  refine ⟨by omega, ?_, ?_, ?_, ?_, ?_, ?_⟩
  · have := cntN_less hn (n := nf) (by omega); have := h.cnt; omega
  · intro i hi
    by_cases hin : i < n
    · rw [h1 i hin]; exact h.dom i hin
    · have : i = n := by omega
      subst this; rw [h2]; exact hg
  · intro i hi
    by_cases hin : i < n
    · rw [h1 i hin]; exact h.sure i hin
    · have : i = n := by omega
      subst this; rw [h2]; exact hr
  · intro f hf
    simp only [up2] at hf
    by_cases he : f = g.toNat
    · exact ⟨n, by omega, by rw [h2, he]⟩
    · simp [he] at hf
      obtain ⟨i, a, b⟩ := h.got f hf
      exact ⟨i, by omega, by rw [h1 i a, b]⟩
  · simp only [up2]; by_cases he : 0 = g.toNat
    · simp [← he]
    · simp [he, h.start]
  · intro i hi x hx
    rw [h1 i (by omega)] at hx
    have := h.next i hi x hx
    simp only [up2]; by_cases he : x.toNat = g.toNat
    · simp [he]
    · simp [he, this]
theorem BInv.done {N nf R n s} (h : BInv N nf R n n s) (f : Nat) : R f 0 = true ↔ Reach N f := by
  constructor
  · intro hf
    obtain ⟨i, a, b⟩ := h.got f hf
    rw [← b]; exact h.sure i a
  · intro hf
    induction hf with
    | zero => exact h.start
    | step f g _ hg ih =>
      obtain ⟨i, a, b⟩ := h.got f ih
      rw [← b] at hg
      exact h.next i a g hg
end Go.Proofs.YtkhbmendaapojaaGreatDoor
/- The reference: Flaw. (Printed by rfgen.py.) -/
namespace Go.Proofs.YtkhbmendaapojaaGreatDoor
open Go Go.Vx
set_option maxRecDepth 100000
attribute [local irreducible] CallV LoopV CodeV
theorem placeO_is {o : Option Nat} {b : Bool} (h : decide (0 ≤ placeO o) = b) : o.isSome = b := by
  cases o with
  | none => rw [← h]; simp [placeO]
  | some i => rw [← h]; simp [placeO]
theorem placeO_not {o : Option Nat} {b : Bool} (h : decide (placeO o < 0) = b) : (!o.isSome) = b := by
  cases o with
  | none => rw [← h]; simp [placeO]
  | some i => rw [← h]; exact (decide_eq_false (by show ¬ ((i : Int) < 0); omega)).symm
structure BS where
  n : Nat
  k : Nat
  gi : Nat → Nat → Int
  gb : Nat → Nat → Bool
  gs : Nat → Nat → List UInt8
  R : Nat → Nat → Bool
theorem S1_lt {n i : Nat} {s : Nat → Nat → Int} {g : Int} (h : i < n) : S1 n s g i 0 = s i 0 := by
  show appF n (fun i => s (0 + i)) _ i 0 = _
  rw [appF_lt h, Nat.zero_add]
theorem S1_at {n : Nat} {s : Nat → Nat → Int} {g : Int} : S1 n s g n 0 = g := by
  show appF n (fun i => s (0 + i)) _ n 0 = _
  have : Nat.blt n n = false := by
    cases h : Nat.blt n n with
    | false => rfl
    | true => exact absurd (Nat.le_of_ble_eq_true h) (by omega)
  simp only [appF, this, Nat.sub_self]
  rfl
theorem BInv.push' {N nf R n k s} (h : BInv N nf R n k s) {g : Int} (hg : 0 ≤ g ∧ g < nf) (hr : Reach N g.toNat) (hn : (!R (0 + g.toNat) 0) = true) : BInv N nf (up2 R (0 + g.toNat) 0 true) (n + 1) k (S1 n s g) := by
  rw [Nat.zero_add] at hn ⊢
  exact h.push hg hr (by simpa using hn) (fun i hi => S1_lt hi) S1_at
theorem up_self {R : Nat → Nat → Bool} {g : Nat} : up2 R (0 + g) 0 true g 0 = true := by simp [up2]
theorem up_mono {R : Nat → Nat → Bool} {g x : Nat} (h : R x 0 = true) : up2 R (0 + g) 0 true x 0 = true := by
  simp only [up2, Nat.zero_add]
  by_cases he : x = g
  · simp [he]
  · simp [he, h]
theorem up_old {R : Nat → Nat → Bool} {x : Nat} (h : (!R (0 + x) 0) = false) : R x 0 = true := by rw [Nat.zero_add] at h; simpa using h
theorem cntN_none : ∀ {n : Nat}, cntN (fun _ _ => false) n = n
  | 0 => rfl
  | n + 1 => by simp [cntN, @cntN_none n]
theorem BInv.zero {N : Nat → List Int} {nf : Nat} (h : 0 < nf) (s : Nat → Nat → Int) (hs : s 0 0 = 0) : BInv N nf (up2 (fun _ _ => false) (0 + Int.toNat 0) 0 true) 1 0 s := by
  refine ⟨by omega, ?_, ?_, ?_, ?_, rfl, ?_⟩
  · have := cntN_less (R := fun _ _ => false) (f := 0) rfl h
    rw [cntN_none] at this
    show 1 + cntN (up2 _ 0 0 true) nf = nf
    omega
  · intro i hi; have : i = 0 := by omega
    subst this; rw [hs]; omega
  · intro i hi; have : i = 0 := by omega
    subst this; rw [hs]; exact .zero
  · intro f hf
    by_cases he : f = 0
    · subst he; exact ⟨0, by omega, by rw [hs]; rfl⟩
    · simp [up2, he] at hf
  · intro i hi; omega
theorem first_lt {p : Nat → Bool} : ∀ {c i x : Nat}, first p i c = some x → x < i + c
  | 0, _, _, h => by cases h
  | c + 1, i, x, h => by
    rw [first] at h
    split at h
    · cases h; omega
    · have := first_lt h; omega
theorem plc_lt {F : Nat → Nat → Int} {a b : Int} {n : Nat} (h : (plc F a b n).isSome = true) : 0 ≤ placeO (plc F a b n) ∧ placeO (plc F a b n) < n := by
  cases hp : plc F a b n with
  | none => rw [hp] at h; cases h
  | some x =>
    have := first_lt hp
    show (0 : Int) ≤ (x : Int) ∧ (x : Int) < n
    omega
theorem bfs_leaf {N : Nat → List Int} {nf : Nat} {R : Nat → Nat → Bool} {n k : Nat} {s : Nat → Nat → Int} {T : BS → List V} {M : BS → List Blk} {tm' : List V} {L' : List Blk} {n0 : Nat} {kk : Nat}
    (h : BInv N nf R n k s) (hk : k < n) (hlt : k < nf) {e g0 g1 g2 : Int} (hs : s k 0 = e) (hN : N e.toNat = [g0, g1, g2]) (r0 : R g0.toNat 0 = true) (r1 : R g1.toNat 0 = true) (r2 : R g2.toNat 0 = true)
    (gb : Nat → Nat → Bool) (gs : Nat → Nat → List UInt8) (xs : List Nat) (hkk : kk = k) (hbig : Nat.ble (len L') 900000 = true)
    (hle : leS n0 tm' L' (T ⟨n, k + 1, s, gb, gs, R⟩) (M ⟨n, k + 1, s, gb, gs, R⟩) xs) :
    ([] : List DV) = [] ∧ ∃ s xs, BInv N nf s.R s.n s.k s.gi ∧ nf - s.k < nf - kk ∧ Nat.ble (len L') 900000 = true ∧ leS n0 tm' L' (T s) (M s) xs := by
  subst hkk
  refine ⟨rfl, ⟨n, kk + 1, s, gb, gs, R⟩, xs, ⟨by show kk + 1 ≤ n; omega, h.cnt, h.dom, h.sure, h.got, h.start, ?_⟩, by show nf - (kk + 1) < nf - kk; omega, hbig, hle⟩
  intro i hi g hg
  have hi : i < kk + 1 := hi
  by_cases hc : i = kk
  · subst hc
    have hg : g ∈ N (s i 0).toNat := hg
    rw [hs, hN] at hg
    simp only [List.mem_cons, List.not_mem_nil, or_false] at hg
    rcases hg with rfl | rfl | rfl
    · exact r0
    · exact r1
    · exact r2
  · exact h.next i (by omega) g hg
set_option maxHeartbeats 8000000 in
theorem rflaw_pure (np : Nat) (P : Nat → Nat → Int) (nf : Nat) (F : Nat → Nat → Int) :
    Pure Tryz.prog 32 [meshV np P nf F] (fun o => o = .ret (.tup [i64 (flawS np P nf F).1, i64 (flawS np P nf F).2])) := by
  refine pure_of Tryz.func32 rfl 300 ?_
  conv => whnf
  refine callF1 (shapes_pure np P nf F) rfl rfl ?_
  conv => whnf
  refine branchI (fun h1 => ?_) (fun h1 => ?_)
  · have h1 : decide (0 < (singleS np P nf F).1) = true := h1
    conv => whnf
    exact retP (by rw [flawS, if_pos (of_decide_eq_true h1)])
  have h1 : decide (0 < (singleS np P nf F).1) = false := h1
  have h1 := of_decide_eq_false h1
  obtain ⟨⟨np1, np2⟩, ⟨nf1, nf2⟩, -, hbad, -⟩ := msingle_ok h1
  have hS : flawS np P nf F = (match first (fun i => dupR F i) 0 nf with
    | some i => (5, (i : Int))
    | none => match first (fun i => openR F nf i) 0 nf with
      | some i => (6, (i : Int))
      | none => match first (fun i => false == usedN F nf i 0) 0 np with
        | some i => (7, (i : Int))
        | none => match first (fun i => false == reachN F nf i) 0 nf with
          | some i => (8, (i : Int))
          | none => (0, 0)) := by
    rw [flawS, if_neg h1, first_congr (q := fun i => dupR F i) (fun k _ hk => dup_eq (badF_false (hbad k (by omega))).2.2.2), first_congr (q := fun i => openR F nf i) (fun k _ hk => open_eq)]
    rfl
  have hplace := fun a b n (hn : n ≤ nf) => rplace_pure np P nf F a b n hn (by omega)
  conv => whnf
  refine loop_inv Tryz.eok 250 (fun i : Nat => i ≤ nf ∧ first (fun i => dupR F i) 0 nf = first (fun i => dupR F i) i (nf - i)) (fun i => nf - i)
    (fun i => slots [(1, .ptr 0 0 0), (6, i64 nf), (7, i64 i)] 0 185) (fun i => [.fix 24 [rows3 np P, rows3 nf F]]) 0 [] ⟨Nat.zero_le _, rfl⟩ (by repeat' constructor) rfl ?_
  rintro k ⟨hk, hfk⟩
  conv => whnf
  refine branchI (fun hl => ?_) (fun hl => ?_)
  · simp at hl
    rw [first_step hl] at hfk
    have hin : (decide (0 ≤ (k : Int)) && decide ((k : Int) < (nf : Int))) = true := guardI ⟨by omega, by omega⟩
    have dup : dupR F k = true → flawS np P nf F = (5, (k : Int)) := fun hb => by rw [if_pos hb] at hfk; rw [hS, hfk]
    conv => whnf
    refine loop_unroll Tryz.eok 100 5 ?_
    conv => whnf
    refine branchT hin ?_
    conv => whnf
    refine branchT hin ?_
    conv => whnf
    first | refine callF1 (hplace _ _ k (by omega)) rfl rfl ?_ | refine ⟨_, _, callD (hplace _ _ k (by omega)) rfl (.inl rfl), ?_⟩
    conv => whnf
    refine branchI (fun d0 => ?_) (fun d0 => ?_)
    · have d0 := placeO_is (o := plc F (F k 0) (F k 1) k) d0
      conv => whnf
      exact retP (dup (by simp only [dupR, d0, Bool.true_or, Bool.or_true]))
    have d0 := placeO_is (o := plc F (F k 0) (F k 1) k) d0
    conv => whnf
    refine branchT hin ?_
    conv => whnf
    refine branchT hin ?_
    conv => whnf
    first | refine callF1 (hplace _ _ k (by omega)) rfl rfl ?_ | refine ⟨_, _, callD (hplace _ _ k (by omega)) rfl (.inl rfl), ?_⟩
    conv => whnf
    refine branchI (fun d1 => ?_) (fun d1 => ?_)
    · have d1 := placeO_is (o := plc F (F k 1) (F k 2) k) d1
      conv => whnf
      exact retP (dup (by simp only [dupR, d1, Bool.true_or, Bool.or_true]))
    have d1 := placeO_is (o := plc F (F k 1) (F k 2) k) d1
    conv => whnf
    refine branchT hin ?_
    conv => whnf
    refine branchT hin ?_
    conv => whnf
    first | refine callF1 (hplace _ _ k (by omega)) rfl rfl ?_ | refine ⟨_, _, callD (hplace _ _ k (by omega)) rfl (.inl rfl), ?_⟩
    conv => whnf
    refine branchI (fun d2 => ?_) (fun d2 => ?_)
    · have d2 := placeO_is (o := plc F (F k 2) (F k 0) k) d2
      conv => whnf
      exact retP (dup (by simp only [dupR, d2, Bool.true_or, Bool.or_true]))
    have d2 := placeO_is (o := plc F (F k 2) (F k 0) k) d2
    have hd : dupR F k = false := by simp only [dupR, d0, d1, d2, Bool.or_false]
    rw [if_neg (by rw [hd]; simp)] at hfk
    conv => whnf
    refine ⟨rfl, k + 1, [], ⟨hl, hfk⟩, by omega, rfl, ?_⟩
    repeat' constructor
    exact w64_nat (by omega)
  simp at hl
  rw [first_end hl] at hfk
  rw [hfk] at hS
  simp only at hS
  have hdup : ∀ k, k < nf → dupF F k (mapN F k) = false := fun k hk => by rw [dup_eq (badF_false (hbad k hk)).2.2.2]; exact first_none hfk k (Nat.zero_le _) (by omega)
  conv => whnf
  refine loop_inv Tryz.eok 250 (fun i : Nat => i ≤ nf ∧ first (fun i => openR F nf i) 0 nf = first (fun i => openR F nf i) i (nf - i)) (fun i => nf - i)
    (fun i => slots [(1, .ptr 0 0 0), (6, i64 nf), (9, i64 i)] 0 185) (fun i => [.fix 24 [rows3 np P, rows3 nf F]]) 0 [] ⟨Nat.zero_le _, rfl⟩ (by repeat' constructor) rfl ?_
  rintro k2 ⟨hk2, hfk2⟩
  conv => whnf
  refine branchI (fun hl2 => ?_) (fun hl2 => ?_)
  · simp at hl2
    rw [first_step hl2] at hfk2
    have hin : (decide (0 ≤ (k2 : Int)) && decide ((k2 : Int) < (nf : Int))) = true := guardI ⟨by omega, by omega⟩
    have opn : openR F nf k2 = true → flawS np P nf F = (6, (k2 : Int)) := fun hb => by rw [if_pos hb] at hfk2; rw [hS, hfk2]
    conv => whnf
    refine loop_unroll Tryz.eok 100 5 ?_
    conv => whnf
    refine branchT hin ?_
    conv => whnf
    refine branchT hin ?_
    conv => whnf
    first | refine callF1 (hplace _ _ nf (by omega)) rfl rfl ?_ | refine ⟨_, _, callD (hplace _ _ nf (by omega)) rfl (.inl rfl), ?_⟩
    conv => whnf
    refine branchI (fun d0 => ?_) (fun d0 => ?_)
    · have d0 := placeO_not (o := plc F (F k2 1) (F k2 0) nf) d0
      conv => whnf
      exact retP (opn (by simp only [openR, d0, Bool.true_or, Bool.or_true]))
    have d0 := placeO_not (o := plc F (F k2 1) (F k2 0) nf) d0
    conv => whnf
    refine branchT hin ?_
    conv => whnf
    refine branchT hin ?_
    conv => whnf
    first | refine callF1 (hplace _ _ nf (by omega)) rfl rfl ?_ | refine ⟨_, _, callD (hplace _ _ nf (by omega)) rfl (.inl rfl), ?_⟩
    conv => whnf
    refine branchI (fun d1 => ?_) (fun d1 => ?_)
    · have d1 := placeO_not (o := plc F (F k2 2) (F k2 1) nf) d1
      conv => whnf
      exact retP (opn (by simp only [openR, d1, Bool.true_or, Bool.or_true]))
    have d1 := placeO_not (o := plc F (F k2 2) (F k2 1) nf) d1
    conv => whnf
    refine branchT hin ?_
    conv => whnf
    refine branchT hin ?_
    conv => whnf
    first | refine callF1 (hplace _ _ nf (by omega)) rfl rfl ?_ | refine ⟨_, _, callD (hplace _ _ nf (by omega)) rfl (.inl rfl), ?_⟩
    conv => whnf
    refine branchI (fun d2 => ?_) (fun d2 => ?_)
    · have d2 := placeO_not (o := plc F (F k2 0) (F k2 2) nf) d2
      conv => whnf
      exact retP (opn (by simp only [openR, d2, Bool.true_or, Bool.or_true]))
    have d2 := placeO_not (o := plc F (F k2 0) (F k2 2) nf) d2
    have hd : openR F nf k2 = false := by simp only [openR, d0, d1, d2, Bool.or_false]
    rw [if_neg (by rw [hd]; simp)] at hfk2
    conv => whnf
    refine ⟨rfl, k2 + 1, [], ⟨hl2, hfk2⟩, by omega, rfl, ?_⟩
    repeat' constructor
    exact w64_nat (by omega)
  simp at hl2
  rw [first_end hl2] at hfk2
  rw [hfk2] at hS
  simp only at hS
  have hopen : ∀ k, k < nf → openR F nf k = false := fun k hk => first_none hfk2 k (Nat.zero_le _) (by omega)
  conv => whnf
  refine branchT (by rw [show (Tryz.E.T 4).bytes = 1 from rfl]; simp; omega) ?_
  conv => whnf
  refine loop_inv Tryz.eok 250 (fun i : Nat => i ≤ nf) (fun i => nf - i)
    (fun i => slots [(1, .ptr 0 0 0), (6, i64 nf), (11, .sl 1 1 0 np np), (12, i64 i)] 0 185) (fun i => [.fix 24 [rows3 np P, rows3 nf F], .arr 4 [.bool] (fun _ _ => 0) (usedN F i) (fun _ _ => [])]) 0 [] (Nat.zero_le _) (by repeat' constructor) rfl ?_
  rintro k3 hk3
  conv => whnf
  refine branchI (fun hl3 => ?_) (fun hl3 => ?_)
  · simp at hl3
    have hin : (decide (0 ≤ (k3 : Int)) && decide ((k3 : Int) < (nf : Int))) = true := guardI ⟨by omega, by omega⟩
    obtain ⟨b0, b1, b2, _⟩ := badF_false (hbad k3 hl3)
    conv => whnf
    refine loop_unroll Tryz.eok 100 5 ?_
    conv => whnf
    refine branchT hin ?_
    conv => whnf
    refine branchT (guardI b0) ?_
    conv => whnf
    refine branchT hin ?_
    conv => whnf
    refine branchT (guardI b1) ?_
    conv => whnf
    refine branchT hin ?_
    conv => whnf
    refine branchT (guardI b2) ?_
    conv => whnf
    refine ⟨rfl, k3 + 1, [], hl3, by omega, rfl, ?_⟩
    repeat' constructor
    · exact w64_nat (by omega)
    · simp only [Nat.zero_add]; rfl
  simp at hl3
  obtain rfl : nf = k3 := by omega
  conv => whnf
  refine loop_inv Tryz.eok 250 (fun i : Nat => i ≤ np ∧ first (fun i => false == usedN F nf i 0) 0 np = first (fun i => false == usedN F nf i 0) i (np - i)) (fun i => np - i)
    (fun i => slots [(1, .ptr 0 0 0), (6, i64 nf), (11, .sl 1 1 0 np np), (14, i64 i)] 0 185) (fun _ => [.fix 24 [rows3 np P, rows3 nf F], .arr 4 [.bool] (fun _ _ => 0) (usedN F nf) (fun _ _ => [])]) 0 [] ⟨Nat.zero_le _, rfl⟩ (by repeat' constructor) rfl ?_
  rintro k4 ⟨hk4, hfk4⟩
  conv => whnf
  refine branchI (fun hl4 => ?_) (fun hl4 => ?_)
  · simp at hl4
    rw [first_step hl4] at hfk4
    conv => whnf
    refine branchT (guardI ⟨by omega, by omega⟩) ?_
    conv => whnf
    refine branchI (fun u => ?_) (fun u => ?_)
    · have u : (!usedN F nf (0 + k4) 0) = true := u
      rw [Nat.zero_add] at u
      rw [if_pos (by simpa using u)] at hfk4
      conv => whnf
      exact retP (by rw [hS, hfk4])
    have u : (!usedN F nf (0 + k4) 0) = false := u
    rw [Nat.zero_add] at u
    rw [if_neg (by simpa using u)] at hfk4
    conv => whnf
    refine ⟨rfl, k4 + 1, [], ⟨hl4, hfk4⟩, by omega, rfl, ?_⟩
    repeat' constructor
    exact w64_nat (by omega)
  simp at hl4
  rw [first_end hl4] at hfk4
  rw [hfk4] at hS
  simp only at hS
  conv => whnf
  refine branchT (by rw [show (Tryz.E.T 4).bytes = 1 from rfl]; simp; omega) ?_
  conv => whnf
  refine branchT (by simp; omega) ?_
  conv => whnf
  refine loop_inv Tryz.eok 250 (fun s : BS => BInv (nb F (mapN F nf)) nf s.R s.n s.k s.gi) (fun s => nf - s.k)
    (fun s => slots [(1, .ptr 0 0 0), (6, i64 nf), (15, .sl 2 1 0 nf nf), (16, .sl 4 1 0 s.n s.n), (17, i64 s.k)] 0 185)
    (fun s => [.fix 24 [rows3 np P, rows3 nf F], .dead, .arr 4 [.bool] (fun _ _ => 0) s.R (fun _ _ => []), .dead, .arr 3 [.int .i64] s.gi s.gb s.gs])
    ⟨1, 0, fun i c => cInt (nthV [i64 0] (i * 1 + c)), fun i c => cBool (nthV [i64 0] (i * 1 + c)), fun i c => cStr (nthV [i64 0] (i * 1 + c)), up2 (fun _ _ => false) (0 + Int.toNat 0) 0 true⟩ [3] (BInv.zero (by omega) _ rfl) (by repeat' constructor) rfl ?_
  rintro ⟨n, k5, gi, gb, gs, R⟩ hI
  have hI : BInv (nb F (mapN F nf)) nf R n k5 gi := hI
  have hcn := hI.cnt
  conv => whnf
  refine branchI (fun hl5 => ?_) (fun hl5 => ?_)
  · have hl5 : decide ((k5 : Int) < (n : Int)) = true := hl5
    have hl5 := of_decide_eq_true hl5
    have hkn : k5 < n := by omega
    have he : gi k5 0 = gi (0 + k5) 0 := by rw [Nat.zero_add]
    obtain ⟨e0, e1⟩ := hI.dom k5 hkn
    rw [he] at e0 e1
    have ho := hopen (gi (0 + k5) 0).toNat (by omega)
    simp only [openR, Bool.or_eq_false_iff, Bool.not_eq_false'] at ho
    obtain ⟨o0, o1, o2⟩ := ho
    have q0 := plc_lt o0
    have q1 := plc_lt o1
    have q2 := plc_lt o2
    have hNe : nb F (mapN F nf) (gi (0 + k5) 0).toNat = [(placeO (plc F (F (gi (0 + k5) 0).toNat 1) (F (gi (0 + k5) 0).toNat 0) nf)), (placeO (plc F (F (gi (0 + k5) 0).toNat 2) (F (gi (0 + k5) 0).toNat 1) nf)), (placeO (plc F (F (gi (0 + k5) 0).toNat 0) (F (gi (0 + k5) 0).toNat 2) nf))] := by
      simp only [nb]
      rw [valOr_plc hdup o0, valOr_plc hdup o1, valOr_plc hdup o2]
    have hR := hI.sure k5 hkn
    rw [he] at hR
    have w0 : Reach (nb F (mapN F nf)) (placeO (plc F (F (gi (0 + k5) 0).toNat 1) (F (gi (0 + k5) 0).toNat 0) nf)).toNat := .step _ _ hR (by rw [hNe]; exact List.mem_cons_self)
    have w1 : Reach (nb F (mapN F nf)) (placeO (plc F (F (gi (0 + k5) 0).toNat 2) (F (gi (0 + k5) 0).toNat 1) nf)).toNat := .step _ _ hR (by rw [hNe]; exact (List.mem_cons_of_mem _ List.mem_cons_self))
    have w2 : Reach (nb F (mapN F nf)) (placeO (plc F (F (gi (0 + k5) 0).toNat 0) (F (gi (0 + k5) 0).toNat 2) nf)).toNat := .step _ _ hR (by rw [hNe]; exact (List.mem_cons_of_mem _ (List.mem_cons_of_mem _ List.mem_cons_self)))
    conv => whnf
    refine branchT (guardI ⟨by omega, by omega⟩) ?_
    conv => whnf
    refine branchT (guardI ⟨e0, e1⟩) ?_
    conv => whnf
    refine loop_unroll Tryz.eok 100 5 ?_
    conv => whnf
    first | refine callF1 (hplace _ _ nf (by omega)) rfl rfl ?_ | refine ⟨_, _, callD (hplace _ _ nf (by omega)) rfl (.inl rfl), ?_⟩
    conv => whnf
    refine branchT (guardI q0) ?_
    conv => whnf
    refine branchI (fun p0 => ?_) (fun p0 => ?_)
    · conv => whnf
      refine branchT (guardI q0) ?_
      conv => whnf
      refine branchT (fits8 (by show n + 1 ≤ 100000; omega)) ?_
      conv => whnf
      first | refine callF1 (hplace _ _ nf (by omega)) rfl rfl ?_ | refine ⟨_, _, callD (hplace _ _ nf (by omega)) rfl (.inl rfl), ?_⟩
      conv => whnf
      refine branchT (guardI q1) ?_
      conv => whnf
      refine branchI (fun p1 => ?_) (fun p1 => ?_)
      · conv => whnf
        refine branchT (guardI q1) ?_
        conv => whnf
        refine branchT (fits8 (by show n + 1 + 1 ≤ 100000; omega)) ?_
        conv => whnf
        first | refine callF1 (hplace _ _ nf (by omega)) rfl rfl ?_ | refine ⟨_, _, callD (hplace _ _ nf (by omega)) rfl (.inl rfl), ?_⟩
        conv => whnf
        refine branchT (guardI q2) ?_
        conv => whnf
        refine branchI (fun p2 => ?_) (fun p2 => ?_)
        · conv => whnf
          refine branchT (guardI q2) ?_
          conv => whnf
          refine branchT (fits8 (by show n + 1 + 1 + 1 ≤ 100000; omega)) ?_
          conv => whnf
          apply bfs_leaf (((hI.push' q0 w0 p0).push' q1 w1 p1).push' q2 w2 p2) (by omega) (by omega) ((S1_lt (by omega)).trans ((S1_lt (by omega)).trans ((S1_lt (by omega)).trans he))) hNe (up_mono (up_mono up_self)) (up_mono up_self) up_self _ _ [19] rfl rfl
          repeat' (first | with_reducible exact Nat.le_refl _ | exact w64_nat (n := k5) (by omega) | exact rfl | exact Nat.le_refl _ | refine And.intro ?_ ?_)
        · conv => whnf
          apply bfs_leaf ((hI.push' q0 w0 p0).push' q1 w1 p1) (by omega) (by omega) ((S1_lt (by omega)).trans ((S1_lt (by omega)).trans he)) hNe (up_mono up_self) up_self (up_old p2) _ _ [17] rfl rfl
          repeat' (first | with_reducible exact Nat.le_refl _ | exact w64_nat (n := k5) (by omega) | exact rfl | exact Nat.le_refl _ | refine And.intro ?_ ?_)
      · conv => whnf
        first | refine callF1 (hplace _ _ nf (by omega)) rfl rfl ?_ | refine ⟨_, _, callD (hplace _ _ nf (by omega)) rfl (.inl rfl), ?_⟩
        conv => whnf
        refine branchT (guardI q2) ?_
        conv => whnf
        refine branchI (fun p2 => ?_) (fun p2 => ?_)
        · conv => whnf
          refine branchT (guardI q2) ?_
          conv => whnf
          refine branchT (fits8 (by show n + 1 + 1 ≤ 100000; omega)) ?_
          conv => whnf
          apply bfs_leaf ((hI.push' q0 w0 p0).push' q2 w2 p2) (by omega) (by omega) ((S1_lt (by omega)).trans ((S1_lt (by omega)).trans he)) hNe (up_mono up_self) (up_mono (up_old p1)) up_self _ _ [17] rfl rfl
          repeat' (first | with_reducible exact Nat.le_refl _ | exact w64_nat (n := k5) (by omega) | exact rfl | exact Nat.le_refl _ | refine And.intro ?_ ?_)
        · conv => whnf
          apply bfs_leaf (hI.push' q0 w0 p0) (by omega) (by omega) ((S1_lt (by omega)).trans he) hNe up_self (up_old p1) (up_old p2) _ _ [15] rfl rfl
          repeat' (first | with_reducible exact Nat.le_refl _ | exact w64_nat (n := k5) (by omega) | exact rfl | exact Nat.le_refl _ | refine And.intro ?_ ?_)
    · conv => whnf
      first | refine callF1 (hplace _ _ nf (by omega)) rfl rfl ?_ | refine ⟨_, _, callD (hplace _ _ nf (by omega)) rfl (.inl rfl), ?_⟩
      conv => whnf
      refine branchT (guardI q1) ?_
      conv => whnf
      refine branchI (fun p1 => ?_) (fun p1 => ?_)
      · conv => whnf
        refine branchT (guardI q1) ?_
        conv => whnf
        refine branchT (fits8 (by show n + 1 ≤ 100000; omega)) ?_
        conv => whnf
        first | refine callF1 (hplace _ _ nf (by omega)) rfl rfl ?_ | refine ⟨_, _, callD (hplace _ _ nf (by omega)) rfl (.inl rfl), ?_⟩
        conv => whnf
        refine branchT (guardI q2) ?_
        conv => whnf
        refine branchI (fun p2 => ?_) (fun p2 => ?_)
        · conv => whnf
          refine branchT (guardI q2) ?_
          conv => whnf
          refine branchT (fits8 (by show n + 1 + 1 ≤ 100000; omega)) ?_
          conv => whnf
          apply bfs_leaf ((hI.push' q1 w1 p1).push' q2 w2 p2) (by omega) (by omega) ((S1_lt (by omega)).trans ((S1_lt (by omega)).trans he)) hNe (up_mono (up_mono (up_old p0))) (up_mono up_self) up_self _ _ [17] rfl rfl
          repeat' (first | with_reducible exact Nat.le_refl _ | exact w64_nat (n := k5) (by omega) | exact rfl | exact Nat.le_refl _ | refine And.intro ?_ ?_)
        · conv => whnf
          apply bfs_leaf (hI.push' q1 w1 p1) (by omega) (by omega) ((S1_lt (by omega)).trans he) hNe (up_mono (up_old p0)) up_self (up_old p2) _ _ [15] rfl rfl
          repeat' (first | with_reducible exact Nat.le_refl _ | exact w64_nat (n := k5) (by omega) | exact rfl | exact Nat.le_refl _ | refine And.intro ?_ ?_)
      · conv => whnf
        first | refine callF1 (hplace _ _ nf (by omega)) rfl rfl ?_ | refine ⟨_, _, callD (hplace _ _ nf (by omega)) rfl (.inl rfl), ?_⟩
        conv => whnf
        refine branchT (guardI q2) ?_
        conv => whnf
        refine branchI (fun p2 => ?_) (fun p2 => ?_)
        · conv => whnf
          refine branchT (guardI q2) ?_
          conv => whnf
          refine branchT (fits8 (by show n + 1 ≤ 100000; omega)) ?_
          conv => whnf
          apply bfs_leaf (hI.push' q2 w2 p2) (by omega) (by omega) ((S1_lt (by omega)).trans he) hNe (up_mono (up_old p0)) (up_mono (up_old p1)) up_self _ _ [15] rfl rfl
          repeat' (first | with_reducible exact Nat.le_refl _ | exact w64_nat (n := k5) (by omega) | exact rfl | exact Nat.le_refl _ | refine And.intro ?_ ?_)
        · conv => whnf
          apply bfs_leaf hI (by omega) (by omega) he hNe (up_old p0) (up_old p1) (up_old p2) _ _ [4] rfl rfl
          repeat' (first | with_reducible exact Nat.le_refl _ | exact w64_nat (n := k5) (by omega) | exact rfl | exact Nat.le_refl _ | refine And.intro ?_ ?_)
  · have hl5 : decide ((k5 : Int) < (n : Int)) = false := hl5
    have hl5 := of_decide_eq_false hl5
    have hle := hI.le
    obtain rfl : n = k5 := by omega
    have hdone : ∀ f, R f 0 = reachN F nf f := fun f => by
      rw [reachN]
      have := hI.done f
      cases h : R f 0 with
      | true => exact (@decide_eq_true _ (Classical.propDecidable _) (this.1 h)).symm
      | false => exact (@decide_eq_false _ (Classical.propDecidable _) (fun hc => by rw [this.2 hc] at h; cases h)).symm
    have hfe : (fun i => false == reachN F nf i) = fun i => false == R i 0 := funext fun f => by rw [hdone]
    rw [hfe] at hS
    conv => whnf
    refine loop_inv Tryz.eok 250 (fun i : Nat => i ≤ nf ∧ first (fun i => false == R i 0) 0 nf = first (fun i => false == R i 0) i (nf - i)) (fun i => nf - i)
      (fun i => slots [(6, i64 nf), (15, .sl 2 1 0 nf nf), (21, i64 i)] 0 185) (fun _ => [.dead, .dead, .arr 4 [.bool] (fun _ _ => 0) R (fun _ _ => []), .dead, .dead]) 0 [] ⟨Nat.zero_le _, rfl⟩ (by repeat' constructor) rfl ?_
    rintro k6 ⟨hk6, hfk6⟩
    conv => whnf
    refine branchI (fun hl6 => ?_) (fun hl6 => ?_)
    · simp at hl6
      rw [first_step hl6] at hfk6
      conv => whnf
      refine branchT (guardI ⟨by omega, by omega⟩) ?_
      conv => whnf
      refine branchI (fun u => ?_) (fun u => ?_)
      · have u : (!R (0 + k6) 0) = true := u
        rw [Nat.zero_add] at u
        rw [if_pos (by simpa using u)] at hfk6
        conv => whnf
        exact retP (by rw [hS, hfk6])
      have u : (!R (0 + k6) 0) = false := u
      rw [Nat.zero_add] at u
      rw [if_neg (by simpa using u)] at hfk6
      conv => whnf
      refine ⟨rfl, k6 + 1, [], ⟨hl6, hfk6⟩, by omega, rfl, ?_⟩
      repeat' constructor
      exact w64_nat (by omega)
    simp at hl6
    rw [first_end hl6] at hfk6
    rw [hfk6] at hS
    conv => whnf
    exact retP (by rw [hS])
end Go.Proofs.YtkhbmendaapojaaGreatDoor
/- Flaw, Check: of the program and of the reference. -/
namespace Go.Proofs.YtkhbmendaapojaaGreatDoor
open Go Go.Vx
set_option maxRecDepth 100000
attribute [local irreducible] CallV LoopV CodeV
noncomputable def checkS (np : Nat) (P : Nat → Nat → Int) (nf : Nat) (F : Nat → Nat → Int) : Int := if 0 < (flawS np P nf F).1 then 350 else 0
theorem mflaw_pure (np : Nat) (P : Nat → Nat → Int) (nf : Nat) (F : Nat → Nat → Int) :
    Pure Tryz.prog 31 [meshV np P nf F] (fun o => o = .ret (.tup [i64 (flawS np P nf F).1, i64 (flawS np P nf F).2])) := by
  refine pure_of Tryz.func31 rfl 200 ?_
  conv => whnf
  refine callS_frame (flaw_call np P nf F) [1] (by repeat' constructor) rfl rfl rfl rfl ?_
  rintro _ _ ⟨rfl, ⟨-, rfl⟩ | ⟨-, rfl⟩⟩
  · refine ⟨rfl, rfl, rfl, rfl, ?_⟩
    conv => whnf
    rfl
  · refine ⟨rfl, rfl, rfl, rfl, ?_⟩
    conv => whnf
    rfl
theorem mcheck_pure (np : Nat) (P : Nat → Nat → Int) (nf : Nat) (F : Nat → Nat → Int) :
    Pure Tryz.prog 23 [meshV np P nf F] (fun o => o = .ret (i64 (checkS np P nf F))) := by
  refine pure_of Tryz.func23 rfl 200 ?_
  conv => whnf
  refine callF1 (mflaw_pure np P nf F) rfl rfl ?_
  conv => whnf
  refine branchI (fun h => ?_) (fun h => ?_)
  · conv => whnf
    have h : decide (0 < (flawS np P nf F).1) = true := h
    exact retI (by rw [checkS, if_pos (of_decide_eq_true h)])
  · conv => whnf
    have h : decide (0 < (flawS np P nf F).1) = false := h
    exact retI (by rw [checkS, if_neg (of_decide_eq_false h)])
theorem rcheck_pure (np : Nat) (P : Nat → Nat → Int) (nf : Nat) (F : Nat → Nat → Int) :
    Pure Tryz.prog 33 [meshV np P nf F] (fun o => o = .ret (i64 (checkS np P nf F))) := by
  refine pure_of Tryz.func33 rfl 200 ?_
  conv => whnf
  refine callF1 (rflaw_pure np P nf F) rfl rfl ?_
  conv => whnf
  refine branchI (fun h => ?_) (fun h => ?_)
  · conv => whnf
    have h : decide (0 < (flawS np P nf F).1) = true := h
    exact retI (by rw [checkS, if_pos (of_decide_eq_true h)])
  · conv => whnf
    have h : decide (0 < (flawS np P nf F).1) = false := h
    exact retI (by rw [checkS, if_neg (of_decide_eq_false h)])
end Go.Proofs.YtkhbmendaapojaaGreatDoor
