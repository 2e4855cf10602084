/- The reference's shapes: four tables. A drafted mesh (Draft.Mesh): whatever it is, a mesh. The four meshes that a law looks at: a drafted one, such with one and two changes, an arbitrary one. Numbers as the program has them: trimming, comparing. Sums as the program has them. Differences as the program has them. -/
import Derived.Test.YtkhbmendaapojaaGreatDoorPkBa14
import Derived.Test.YtkhbmendaapojaaGreatDoorPkBa13
import Derived.Test.YtkhbmendaapojaaGreatDoorPkBa16
import Derived.Test.YtkhbmendaapojaaGreatDoorPkBa17
set_option linter.unusedSimpArgs false
set_option linter.unusedVariables false
/- The reference's shapes: four tables. -/
namespace Go.Proofs.YtkhbmendaapojaaGreatDoor
open Go Go.Vx
set_option maxRecDepth 100000
attribute [local irreducible] CallV LoopV CodeV
def triL (l : List Int) (i c : Nat) : Int := l.getD (3 * i + c) 0
/-- A shape's points and faces. -/
def shapeP : Nat → Nat × List Int
  | 0 => (4, [0, 0, 0, 2, 0, 0, 0, 2, 0, 0, 0, 2])
  | 1 => (6, [1, 0, 0, -1, 0, 0, 0, 1, 0, 0, -1, 0, 0, 0, 1, 0, 0, -1])
  | 2 => (8, [0, 0, 0, 1, 0, 0, 1, 1, 0, 0, 1, 0, 0, 0, 1, 1, 0, 1, 1, 1, 1, 0, 1, 1])
  | _ => (8, [0, 0, 0, 3, 1, 0, 0, 2, 0, 1, 1, 0, 0, 0, 2, 3, 1, 2, 0, 2, 2, 1, 1, 2])
def shapeF : Nat → Nat × List Int
  | 0 => (4, [0, 2, 1, 0, 1, 3, 0, 3, 2, 1, 2, 3])
  | 1 => (8, [0, 2, 4, 2, 1, 4, 1, 3, 4, 3, 0, 4, 2, 0, 5, 1, 2, 5, 3, 1, 5, 0, 3, 5])
  | 2 => (12, [0, 2, 1, 0, 3, 2, 4, 5, 6, 4, 6, 7, 0, 1, 5, 0, 5, 4, 1, 2, 6, 1, 6, 5, 2, 3, 7, 2, 7, 6, 3, 0, 4, 3, 4, 7])
  | _ => (12, [0, 3, 1, 3, 2, 1, 4, 5, 7, 7, 5, 6, 0, 1, 5, 0, 5, 4, 1, 2, 6, 1, 6, 5, 2, 3, 7, 2, 7, 6, 3, 0, 4, 3, 4, 7])
abbrev shapeV (k : Nat) : V := .tup [rows3 (shapeP k).1 (triL (shapeP k).2), rows3 (shapeF k).1 (triL (shapeF k).2)]
theorem row_of {n : Nat} {f : Nat → List V} {P : Nat → Nat → Int} (h : ∀ i, i < n → f i = [i64 (P i 0), i64 (P i 1), i64 (P i 2)]) : SubV (.ro 3 n f) (rows3 n P) := SubV.ro h
theorem shape0 : Pure Tryz.prog 55 [i64 0] (fun o => o = .ret (shapeV 0)) := by
  refine Pure.retSub (pure_of Tryz.func55 rfl 300 ?_)
  conv => whnf
  refine RetSub.of (.tup (.cons (row_of (P := triL (shapeP 0).2) fun i hi => ?_) (.cons (row_of (P := triL (shapeF 0).2) fun i hi => ?_) .nil)))
  · have hi : i = 0 ∨ i = 1 ∨ i = 2 ∨ i = 3 := by have : i < 4 := hi; omega
    rcases hi with rfl | rfl | rfl | rfl <;> rfl
  · have hi : i = 0 ∨ i = 1 ∨ i = 2 ∨ i = 3 := by have : i < 4 := hi; omega
    rcases hi with rfl | rfl | rfl | rfl <;> rfl
theorem shape1 : Pure Tryz.prog 55 [i64 1] (fun o => o = .ret (shapeV 1)) := by
  refine Pure.retSub (pure_of Tryz.func55 rfl 300 ?_)
  conv => whnf
  refine RetSub.of (.tup (.cons (row_of (P := triL (shapeP 1).2) fun i hi => ?_) (.cons (row_of (P := triL (shapeF 1).2) fun i hi => ?_) .nil)))
  · have hi : i = 0 ∨ i = 1 ∨ i = 2 ∨ i = 3 ∨ i = 4 ∨ i = 5 := by have : i < 6 := hi; omega
    rcases hi with rfl | rfl | rfl | rfl | rfl | rfl <;> rfl
  · have hi : i = 0 ∨ i = 1 ∨ i = 2 ∨ i = 3 ∨ i = 4 ∨ i = 5 ∨ i = 6 ∨ i = 7 := by have : i < 8 := hi; omega
    rcases hi with rfl | rfl | rfl | rfl | rfl | rfl | rfl | rfl <;> rfl
theorem shape2 : Pure Tryz.prog 55 [i64 2] (fun o => o = .ret (shapeV 2)) := by
  refine Pure.retSub (pure_of Tryz.func55 rfl 300 ?_)
  conv => whnf
  refine RetSub.of (.tup (.cons (row_of (P := triL (shapeP 2).2) fun i hi => ?_) (.cons (row_of (P := triL (shapeF 2).2) fun i hi => ?_) .nil)))
  · have hi : i = 0 ∨ i = 1 ∨ i = 2 ∨ i = 3 ∨ i = 4 ∨ i = 5 ∨ i = 6 ∨ i = 7 := by have : i < 8 := hi; omega
    rcases hi with rfl | rfl | rfl | rfl | rfl | rfl | rfl | rfl <;> rfl
  · have hi : i = 0 ∨ i = 1 ∨ i = 2 ∨ i = 3 ∨ i = 4 ∨ i = 5 ∨ i = 6 ∨ i = 7 ∨ i = 8 ∨ i = 9 ∨ i = 10 ∨ i = 11 := by have : i < 12 := hi; omega
    rcases hi with rfl | rfl | rfl | rfl | rfl | rfl | rfl | rfl | rfl | rfl | rfl | rfl <;> rfl
theorem shape3 : Pure Tryz.prog 55 [i64 3] (fun o => o = .ret (shapeV 3)) := by
  refine Pure.retSub (pure_of Tryz.func55 rfl 300 ?_)
  conv => whnf
  refine RetSub.of (.tup (.cons (row_of (P := triL (shapeP 3).2) fun i hi => ?_) (.cons (row_of (P := triL (shapeF 3).2) fun i hi => ?_) .nil)))
  · have hi : i = 0 ∨ i = 1 ∨ i = 2 ∨ i = 3 ∨ i = 4 ∨ i = 5 ∨ i = 6 ∨ i = 7 := by have : i < 8 := hi; omega
    rcases hi with rfl | rfl | rfl | rfl | rfl | rfl | rfl | rfl <;> rfl
  · have hi : i = 0 ∨ i = 1 ∨ i = 2 ∨ i = 3 ∨ i = 4 ∨ i = 5 ∨ i = 6 ∨ i = 7 ∨ i = 8 ∨ i = 9 ∨ i = 10 ∨ i = 11 := by have : i < 12 := hi; omega
    rcases hi with rfl | rfl | rfl | rfl | rfl | rfl | rfl | rfl | rfl | rfl | rfl | rfl <;> rfl
/-- A kind's shape. -/
theorem shape_pure {k : Nat} (hk : k < 4) : Pure Tryz.prog 55 [i64 k] (fun o => o = .ret (shapeV k)) := by
  have h : k = 0 ∨ k = 1 ∨ k = 2 ∨ k = 3 := by omega
  rcases h with rfl | rfl | rfl | rfl
  · exact shape0
  · exact shape1
  · exact shape2
  · exact shape3
theorem shape_len {k : Nat} (hk : k < 4) : (4 ≤ (shapeP k).1 ∧ (shapeP k).1 ≤ 8) ∧ (4 ≤ (shapeF k).1 ∧ (shapeF k).1 ≤ 12) := by
  have h : k = 0 ∨ k = 1 ∨ k = 2 ∨ k = 3 := by omega
  rcases h with rfl | rfl | rfl | rfl <;> decide
end Go.Proofs.YtkhbmendaapojaaGreatDoor
/- A drafted mesh (Draft.Mesh): whatever it is, a mesh. -/
namespace Go.Proofs.YtkhbmendaapojaaGreatDoor
open Go Go.Vx
set_option maxRecDepth 100000
attribute [local irreducible] CallV LoopV CodeV
abbrev draftV (kd sz a0 a1 a2 : Int) (m : Nat) (g : Nat → Int) (tu : Bool) : V :=
  .agg [.int .u8 kd, .int .u8 sz, .int .i16 a0, .int .i16 a1, .int .i16 a2, .ro 1 m (fun i => [.int .i8 (g i)]), .bool tu]
theorem fits_small3 {n : Nat} (h : n ≤ 1000) : fits 24 n = true := by unfold fits; simp; omega
structure DmS where
  i : Nat
  gi : Nat → Nat → Int
  gb : Nat → Nat → Bool
  gs : Nat → Nat → List UInt8
  hi : Nat → Nat → Int
  hb : Nat → Nat → Bool
  hs : Nat → Nat → List UInt8
theorem dmesh_pure (kd sz a0 a1 a2 : Int) (hk : 0 ≤ kd ∧ kd ≤ 255) (m : Nat) (g : Nat → Int) (tu : Bool) :
    Pure Tryz.prog 26 [draftV kd sz a0 a1 a2 m g tu] (fun o => ∃ np P nf F, np ≤ 8 ∧ nf ≤ 12 ∧ RetSub (meshV np P nf F) o) := by
  refine pure_of Tryz.func26 rfl 400 ?_
  obtain ⟨k, hk4, ek⟩ : ∃ k : Nat, k < 4 ∧ kd.tmod 4 = k := ⟨(kd.tmod 4).toNat, by rw [Int.tmod_eq_emod_of_nonneg hk.1]; omega, by rw [Int.tmod_eq_emod_of_nonneg hk.1]; omega⟩
  have wk : w64 (kd.tmod 4) = k := by rw [ek]; exact w64_in (by omega)
  obtain ⟨⟨n1, n2⟩, ⟨m1, m2⟩⟩ := shape_len hk4
  obtain ⟨n, Q, hn⟩ : ∃ n Q, n = (shapeP k).1 ∧ Q = triL (shapeP k).2 := ⟨_, _, rfl, rfl⟩
  obtain ⟨nf, F, hf⟩ : ∃ n Q, n = (shapeF k).1 ∧ Q = triL (shapeF k).2 := ⟨_, _, rfl, rfl⟩
  have hs : Pure Tryz.prog 55 [i64 k] (fun o => o = .ret (.tup [rows3 n Q, rows3 nf F])) := by
    rw [hn.1, hn.2, hf.1, hf.2]; exact shape_pure hk4
  rw [← hn.1] at n1 n2
  rw [← hf.1] at m1 m2
  conv => whnf
  refine callP1 hs (by show [i64 (w64 (kd.tmod 4))] = [i64 (k : Int)]; rw [wk]) ?_
  conv => whnf
  refine loop_inv Tryz.eok 380 (fun s : DmS => s.i ≤ n) (fun s => n - s.i)
    (fun s => slots [(1, .ptr 0 0 0), (2, .ptr 1 0 0), (3, rows3 n Q), (4, rows3 nf F), (5, i64 (IntKind.i64.wrap (1000 + IntKind.i64.wrap (100 * IntKind.i64.wrap sz)))), (6, .ptr 2 0 0), (7, .ptr 3 0 0), (8, i64 s.i)] 0 109)
    (fun s => [.fix 29 [.int .u8 kd, .int .u8 sz, .int .i16 a0, .int .i16 a1, .int .i16 a2, .ro 1 m (fun i => [.int .i8 (g i)]), .bool tu], .fix 24 [.nilSl, .nilSl], .fix 24 [.sl 4 3 0 s.i s.i, .nilSl], .fix 24 [.sl 5 3 0 s.i s.i, .nilSl], .arr 41 sh3 s.gi s.gb s.gs, .arr 41 sh3 s.hi s.hb s.hs])
    ⟨0, fun _ _ => 0, fun _ _ => false, fun _ _ => [], fun _ _ => 0, fun _ _ => false, fun _ _ => []⟩ [1000000, 1000001] (Nat.zero_le _) ?l0 rfl ?_
  case l0 =>
    repeat' constructor
    all_goals exact rfl
  rintro ⟨i, gi, gb, gs, hi, hb, hs⟩ h0
  have h0 : i ≤ n := h0
  conv => whnf
  refine branchI (fun h3 => ?_) (fun h3 => ?_)
  · have h3 : decide ((i : Int) < (n : Int)) = true := h3
    have h3 := of_decide_eq_true h3
    conv => whnf
    refine branchT (guardI (a := (i : Int)) (n := n) ⟨by omega, by omega⟩) ?_
    conv => whnf
    refine loop_unroll Tryz.eok 300 5 ?_
    conv => whnf
    refine branchT (fits_small3 (n := i + 1) (by omega)) ?_
    conv => whnf
    have y3 : IntKind.i64.wrap (3 * (i : Int)) = 3 * i := w64_in (by omega)
    have y1 : IntKind.i64.wrap (0 + 1) = 1 := by decide
    have y2 : IntKind.i64.wrap (IntKind.i64.wrap (0 + 1) + 1) = 2 := by decide
    have x0 : 0 ≤ IntKind.i64.wrap (IntKind.i64.wrap (3 * (i : Int)) + 0) := by rw [y3, show IntKind.i64.wrap (3 * (i : Int) + 0) = 3 * i + 0 from w64_in (by omega)]; omega
    have x1 : 0 ≤ IntKind.i64.wrap (IntKind.i64.wrap (3 * (i : Int)) + IntKind.i64.wrap (0 + 1)) := by rw [y3, y1, show IntKind.i64.wrap (3 * (i : Int) + 1) = 3 * i + 1 from w64_in (by omega)]; omega
    have x2 : 0 ≤ IntKind.i64.wrap (IntKind.i64.wrap (3 * (i : Int)) + IntKind.i64.wrap (IntKind.i64.wrap (0 + 1) + 1)) := by rw [y3, y2, show IntKind.i64.wrap (3 * (i : Int) + 2) = 3 * i + 2 from w64_in (by omega)]; omega
    refine loop_unroll Tryz.eok 300 5 ?_
    conv => whnf
    refine branchI (fun g0 => ?_) (fun g0 => ?_)
    · have g0 : decide (IntKind.i64.wrap (IntKind.i64.wrap (3 * (i : Int)) + 0) < (m : Int)) = true := g0
      conv => whnf
      refine branchT (guardI (a := IntKind.i64.wrap (IntKind.i64.wrap (3 * (i : Int)) + 0)) (n := m) ⟨x0, of_decide_eq_true g0⟩) ?_
      conv => whnf
      refine branchI (fun g1 => ?_) (fun g1 => ?_)
      · have g1 : decide (IntKind.i64.wrap (IntKind.i64.wrap (3 * (i : Int)) + IntKind.i64.wrap (0 + 1)) < (m : Int)) = true := g1
        conv => whnf
        refine branchT (guardI (a := IntKind.i64.wrap (IntKind.i64.wrap (3 * (i : Int)) + IntKind.i64.wrap (0 + 1))) (n := m) ⟨x1, of_decide_eq_true g1⟩) ?_
        conv => whnf
        refine branchI (fun g2 => ?_) (fun g2 => ?_)
        · have g2 : decide (IntKind.i64.wrap (IntKind.i64.wrap (3 * (i : Int)) + IntKind.i64.wrap (IntKind.i64.wrap (0 + 1) + 1)) < (m : Int)) = true := g2
          conv => whnf
          refine branchT (guardI (a := IntKind.i64.wrap (IntKind.i64.wrap (3 * (i : Int)) + IntKind.i64.wrap (IntKind.i64.wrap (0 + 1) + 1))) (n := m) ⟨x2, of_decide_eq_true g2⟩) ?_
          conv => whnf
          refine branchT (fits_small3 (n := i + 1) (by omega)) ?_
          conv => whnf
          refine ⟨rfl, ⟨i + 1, ?gi3, ?gb3, ?gs3, ?hi3, ?hb3, ?hs3⟩, [88, 44], ?inv3, ?mu3, rfl, ?ls3⟩
          case ls3 =>
            repeat' constructor
            all_goals first | exact rfl | exact w64_nat (by dsimp only; omega) | skip
          case mu3 => show n - (i + 1) < n - i; omega
          case inv3 => show i + 1 ≤ n; omega
        · conv => whnf
          refine branchT (fits_small3 (n := i + 1) (by omega)) ?_
          conv => whnf
          refine ⟨rfl, ⟨i + 1, ?gi2, ?gb2, ?gs2, ?hi2, ?hb2, ?hs2⟩, [74, 44], ?inv2, ?mu2, rfl, ?ls2⟩
          case ls2 =>
            repeat' constructor
            all_goals first | exact rfl | exact w64_nat (by dsimp only; omega) | skip
          case mu2 => show n - (i + 1) < n - i; omega
          case inv2 => show i + 1 ≤ n; omega
      · conv => whnf
        refine branchT (fits_small3 (n := i + 1) (by omega)) ?_
        conv => whnf
        refine ⟨rfl, ⟨i + 1, ?gi1, ?gb1, ?gs1, ?hi1, ?hb1, ?hs1⟩, [60, 44], ?inv1, ?mu1, rfl, ?ls1⟩
        case ls1 =>
          repeat' constructor
          all_goals first | exact rfl | exact w64_nat (by dsimp only; omega) | skip
        case mu1 => show n - (i + 1) < n - i; omega
        case inv1 => show i + 1 ≤ n; omega
    · conv => whnf
      refine branchT (fits_small3 (n := i + 1) (by omega)) ?_
      conv => whnf
      refine ⟨rfl, ⟨i + 1, ?gi0, ?gb0, ?gs0, ?hi0, ?hb0, ?hs0⟩, [46, 44], ?inv0, ?mu0, rfl, ?ls0⟩
      case ls0 =>
        repeat' constructor
        all_goals first | exact rfl | exact w64_nat (by dsimp only; omega) | skip
      case mu0 => show n - (i + 1) < n - i; omega
      case inv0 => show i + 1 ≤ n; omega
  · have h3 : decide ((i : Int) < (n : Int)) = false := h3
    have h3 := of_decide_eq_false h3
    obtain rfl : i = n := by omega
    conv => whnf
    refine callF1 (rcheck_pure i (fun j c => gi (0 + j) c) nf F) rfl rfl ?_
    by_cases hc : 0 < (flawS i (fun j c => gi (0 + j) c) nf F).1
    · rw [checkS, if_pos hc]
      conv => whnf
      refine branchI (fun hta => ?_) (fun hta => ?_)
      · conv => whnf
        refine callP1 (rturned_pure i (fun j c => hi (0 + j) c) nf F) rfl ?_
        by_cases hua : 0 < (flawS i (fun j c => hi (0 + j) c) nf F).1
        · rw [turnedS, if_pos hua]
          conv => whnf
          exact ⟨0, F, 0, F, by omega, by omega, RetSub.of (.agg (.cons (SubV.nil 3 _) (.cons (SubV.nil 3 _) .nil)))⟩
        · rw [turnedS, if_neg hua]
          conv => whnf
          exact ⟨i, fun j c => hi (0 + j) c, nf, turnF F, by omega, by omega, RetSub.of (.refl _)⟩
      · conv => whnf
        exact ⟨i, fun j c => hi (0 + j) c, nf, F, by omega, by omega, RetSub.of (.agg (.cons (SubV.ro fun j _ => rfl) (.cons (SubV.ro fun j _ => rfl) .nil)))⟩
    · rw [checkS, if_neg hc]
      conv => whnf
      refine branchI (fun htb => ?_) (fun htb => ?_)
      · conv => whnf
        refine callP1 (rturned_pure i (fun j c => gi (0 + j) c) nf F) rfl ?_
        by_cases hub : 0 < (flawS i (fun j c => gi (0 + j) c) nf F).1
        · rw [turnedS, if_pos hub]
          conv => whnf
          exact ⟨0, F, 0, F, by omega, by omega, RetSub.of (.agg (.cons (SubV.nil 3 _) (.cons (SubV.nil 3 _) .nil)))⟩
        · rw [turnedS, if_neg hub]
          conv => whnf
          exact ⟨i, fun j c => gi (0 + j) c, nf, turnF F, by omega, by omega, RetSub.of (.refl _)⟩
      · conv => whnf
        exact ⟨i, fun j c => gi (0 + j) c, nf, F, by omega, by omega, RetSub.of (.agg (.cons (SubV.ro fun j _ => rfl) (.cons (SubV.ro fun j _ => rfl) .nil)))⟩
end Go.Proofs.YtkhbmendaapojaaGreatDoor
/- The four meshes that a law looks at: a drafted one, such with one and two changes, an arbitrary one. -/
namespace Go.Proofs.YtkhbmendaapojaaGreatDoor
open Go Go.Vx
set_option maxRecDepth 100000
attribute [local irreducible] CallV LoopV CodeV
theorem Pure.retSubEx {P : Program} {f : Nat} {Vs : List V} {α : Type} {c : α → Prop} {Q : α → V} (h : Pure P f Vs (fun o => ∃ a, c a ∧ RetSub (Q a) o)) : Pure P f Vs (fun o => ∃ a, c a ∧ o = .ret (Q a)) := fun I w xs h0 h1 h2 =>
  (h I w xs h0 h1 h2).mono fun e w' ⟨o, I', ⟨a, ha, ⟨u, ho, hs⟩⟩, hO, hk⟩ => by
    subst ho
    refine ⟨.ret (Q a), I', ⟨a, ha, rfl⟩, ?_, hk⟩
    cases e <;> first | exact hs _ _ hO | exact hO.elim
abbrev BM.le (n : Nat) (m : BM) : Prop := m.np ≤ n ∧ m.nf ≤ n
theorem dmesh_pure' (kd sz a0 a1 a2 : Int) (hk : 0 ≤ kd ∧ kd ≤ 255) (m : Nat) (g : Nat → Int) (tu : Bool) :
    Pure Tryz.prog 26 [draftV kd sz a0 a1 a2 m g tu] (fun o => ∃ a : BM, BM.le 81 a ∧ o = .ret a.v) := by
  refine Pure.retSubEx (Q := BM.v) ?_
  refine (dmesh_pure kd sz a0 a1 a2 hk m g tu).mono ?_
  rintro o ⟨np, P, nf, F, h1, h2, h3⟩
  exact ⟨⟨np, P, nf, F⟩, ⟨by show np ≤ 81; omega, by show nf ≤ 81; omega⟩, h3⟩
theorem bendC_le {x A B tm t n : Int} {p q : Nat} {P F : Nat → Nat → Int} (hA : A.toNat ≤ 40) (hB : B.toNat ≤ 40) (h1 : p ≤ 40) (h2 : q ≤ 40) : BM.le 81 (bendC x A B tm t n p P q F) := by
  unfold bendC
  by_cases x0 : x = 0
  · rw [if_pos x0]; exact ⟨by show p ≤ 81; omega, by show q ≤ 81; omega⟩
  rw [if_neg x0]
  by_cases x1 : x = 1
  · rw [if_pos x1]; exact ⟨by show p ≤ 81; omega, by show q ≤ 81; omega⟩
  rw [if_neg x1]
  by_cases x2 : x = 2
  · rw [if_pos x2]; exact ⟨by show p ≤ 81; omega, by show q ≤ 81; omega⟩
  rw [if_neg x2]
  by_cases x3 : x = 3
  · rw [if_pos x3]; exact ⟨by show p ≤ 81; omega, by show q ≤ 81; omega⟩
  rw [if_neg x3]
  by_cases x4 : x = 4
  · rw [if_pos x4]; exact ⟨by show p ≤ 81; omega, by show B.toNat + (q - (w64 (B + 1)).toNat) ≤ 81; omega⟩
  rw [if_neg x4]
  by_cases x5 : x = 5
  · rw [if_pos x5]; exact ⟨by show p ≤ 81; omega, by show q + 1 ≤ 81; omega⟩
  rw [if_neg x5]
  by_cases x6 : x = 6
  · rw [if_pos x6]; exact ⟨by show p ≤ 81; omega, by show q ≤ 81; omega⟩
  rw [if_neg x6]
  by_cases x7 : x = 7
  · rw [if_pos x7]; exact ⟨by show p + 1 ≤ 81; omega, by show q ≤ 81; omega⟩
  rw [if_neg x7]
  by_cases x8 : x = 8
  · rw [if_pos x8]; exact ⟨by show p + p ≤ 81; omega, by show q + q ≤ 81; omega⟩
  rw [if_neg x8]
  by_cases x9 : x = 9
  · rw [if_pos x9]; exact ⟨by show A.toNat ≤ 81; omega, by show q ≤ 81; omega⟩
  rw [if_neg x9]
  by_cases x10 : x = 10
  · rw [if_pos x10]; exact ⟨by show p + (p - 1) ≤ 81; omega, by show q + q ≤ 81; omega⟩
  rw [if_neg x10]
  exact ⟨by show p ≤ 81; omega, by show q ≤ 81; omega⟩
theorem tmod_40 (a : Int) {n : Nat} (h0 : n ≠ 0) (h : n ≤ 40) : (a.tmod n).toNat ≤ 40 := by
  have := Int.tmod_lt_of_pos a (b := (n : Int)) (by omega)
  omega
theorem bendM_le (w a t n : Int) (np : Nat) (P : Nat → Nat → Int) (nf : Nat) (F : Nat → Nat → Int) : BM.le 81 (bendM w a t n np P nf F) := by
  unfold bendM
  by_cases h : min np 40 = 0 ∨ min nf 40 = 0
  · rw [if_pos h]; exact ⟨by show min np 40 ≤ 81; omega, by show min nf 40 ≤ 81; omega⟩
  · rw [if_neg h]
    exact bendC_le (tmod_40 _ (by omega) (by omega)) (tmod_40 _ (by omega) (by omega)) (by omega) (by omega)
abbrev bendV (w a t n : Int) : List V := [.int .u8 w, .int .u8 a, .int .u8 t, i64 n]
abbrev four (A B C D : BM) : V := .agg [rows3 A.np A.P, rows3 A.nf A.F, rows3 B.np B.P, rows3 B.nf B.F, rows3 C.np C.P, rows3 C.nf C.F, rows3 D.np D.P, rows3 D.nf D.F]
theorem meshes_pure (np : Nat) (P : Nat → Nat → Int) (nf : Nat) (F : Nat → Nat → Int) (kd sz a0 a1 a2 : Int) (hk : 0 ≤ kd ∧ kd ≤ 255) (m : Nat) (g : Nat → Int) (tu : Bool)
    (w a t n : Int) (ha : 0 ≤ a ∧ a ≤ 255) (ht : 0 ≤ t ∧ t ≤ 255) (w' a' t' n' : Int) (ha' : 0 ≤ a' ∧ a' ≤ 255) (ht' : 0 ≤ t' ∧ t' ≤ 255) :
    Pure Tryz.prog 10 [meshV np P nf F, draftV kd sz a0 a1 a2 m g tu, .agg (bendV w a t n ++ bendV w' a' t' n')] (fun o => ∃ A B C D : BM, (BM.le 81 A ∧ BM.le 81 B ∧ BM.le 81 C ∧ BM.le 81 D) ∧ o = .ret (four A B C D)) := by
  refine pure_of Tryz.func10 rfl 300 ?_
  conv => whnf
  refine callP (dmesh_pure' kd sz a0 a1 a2 hk m g tu) rfl ?_
  rintro _ ⟨A, hA, rfl⟩
  conv => whnf
  refine callP1 (bend_pure w a t n ha ht A.np A.P A.nf A.F) rfl ?_
  obtain ⟨B, hB, eB⟩ : ∃ B, BM.le 81 B ∧ bendM w a t n A.np A.P A.nf A.F = B := ⟨_, bendM_le .., rfl⟩
  rw [eB]
  conv => whnf
  refine ⟨_, _, callD (bend_pure w' a' t' n' ha' ht' B.np B.P B.nf B.F) rfl (.inr rfl), ?_⟩
  obtain ⟨C, hC, eC⟩ : ∃ C, BM.le 81 C ∧ bendM w' a' t' n' B.np B.P B.nf B.F = C := ⟨_, bendM_le .., rfl⟩
  rw [eC]
  conv => whnf
  refine ⟨_, _, callD (few_pure np P nf F) rfl (.inr rfl), ?_⟩
  conv => whnf
  refine ⟨A, B, C, ⟨cutN 30 np, P, cutN 30 nf, F⟩, ⟨hA, hB, hC, ?_, ?_⟩, rfl⟩
  · show cutN 30 np ≤ 81
    unfold cutN; split <;> omega
  · show cutN 30 nf ≤ 81
    unfold cutN; split <;> omega
end Go.Proofs.YtkhbmendaapojaaGreatDoor
/- Numbers as the program has them: trimming, comparing. -/
namespace Go.Proofs.YtkhbmendaapojaaGreatDoor
open Go Go.Vx Go.Num
set_option maxRecDepth 100000
attribute [local irreducible] CallV LoopV CodeV
theorem w64_pred {k : Nat} (h : 0 < k) (h2 : k < 4611686018427387904) : IntKind.i64.wrap ((k : Int) - 1) = ((k - 1 : Nat) : Int) := by rw [w64_in (by omega)]; omega
theorem trim_pure (n : Nat) (g : Nat → Int) (hn : n < 4611686018427387904) : Pure Tryz.prog 85 [rowU n g] (fun o => o = .ret (rowU (trimN g n) g)) := by
  refine pure_of Tryz.func85 rfl 100 ?_
  conv => whnf
  refine loop_inv Tryz.eok 80 (fun k : Nat => k ≤ n ∧ trimN g n = trimN g k) (fun k => k)
    (fun k => slots [(0, rowU n g), (3, i64 k)] 0 21) (fun _ => []) n [] ⟨Nat.le_refl _, rfl⟩ (by repeat' constructor) rfl ?_
  rintro k ⟨hk, hf⟩
  have fin : trimN g n = k → Out.ret (rowU k g) = Out.ret (rowU (trimN g n) g) := fun h => by rw [h]
  conv => whnf
  refine branchI (fun h1 => ?_) (fun h1 => ?_)
  · simp at h1
    obtain ⟨j, rfl⟩ : ∃ j, k = j + 1 := ⟨k - 1, by omega⟩
    have hw : IntKind.i64.wrap (((j + 1 : Nat) : Int) - 1) = (j : Int) := by rw [w64_in (by omega)]; omega
    conv => whnf
    refine branchT (by rw [hw]; exact guardI (by omega)) ?_
    conv => whnf
    refine branchI (fun h2 => ?_) (fun h2 => ?_)
    · have h2 : (g (IntKind.i64.wrap (((j + 1 : Nat) : Int) - 1)).toNat == 0) = true := h2
      rw [hw] at h2
      have h2 : g j = 0 := by simpa using h2
      rw [trimN, if_pos h2] at hf
      conv => whnf
      refine ⟨rfl, j, [], ⟨by omega, hf⟩, by omega, rfl, ?_⟩
      repeat' constructor
      exact hw
    · have h2 : (g (IntKind.i64.wrap (((j + 1 : Nat) : Int) - 1)).toNat == 0) = false := h2
      rw [hw] at h2
      have h2 : g j ≠ 0 := by simpa using h2
      rw [trimN, if_neg h2] at hf
      conv => whnf
      refine branchT (by simp; omega) ?_
      conv => whnf
      refine (retV ?_).trans (fin hf)
      simp
      rfl
  · simp at h1
    subst h1
    conv => whnf
    refine (retV ?_).trans (fin hf)
    simp
    rfl
/-- A number of the program's. -/
abbrev massV (n : Nat) : V := rowU (nl 1000000000000000000 n) (fun i => (dg 1000000000000000000 n i : Int))
theorem trim_mass {n k : Nat} {g : Nat → Int} (hg : g = fun i => (dg 1000000000000000000 n i : Int)) (hn : n < 1000000000000000000 ^ k) (hk : k < 4611686018427387904) {Ws : List V} (hW : Ws = [rowU k g]) :
    Pure Tryz.prog 85 Ws (fun o => o = .ret (massV n)) := by
  subst hW; subst hg
  have := trim_pure k (fun i => (dg 1000000000000000000 n i : Int)) hk
  rwa [trimN_dg (by omega) (fun _ _ => rfl) hn] at this
def cmpS (x y : Nat) : Int :=
  if nl 1000000000000000000 x ≠ nl 1000000000000000000 y then (nl 1000000000000000000 x : Int) - nl 1000000000000000000 y else if x < y then -1 else if y < x then 1 else 0
theorem cmp_pure (x y : Nat) (hx : nl 1000000000000000000 x < 4611686018427387904) (hy : nl 1000000000000000000 y < 4611686018427387904) :
    Pure Tryz.prog 122 [massV x, massV y] (fun o => o = .ret (i64 (cmpS x y))) := by
  refine pure_of Tryz.func122 rfl 100 ?_
  conv => whnf
  refine branchI (fun h1 => ?_) (fun h1 => ?_)
  · have h1 : (!((nl 1000000000000000000 x : Int) == nl 1000000000000000000 y)) = true := h1
    conv => whnf
    have hne : nl 1000000000000000000 x ≠ nl 1000000000000000000 y := fun he => by rw [he] at h1; simp at h1
    exact retI (by rw [w64_in (by omega), cmpS, if_pos hne])
  have h1 : (!((nl 1000000000000000000 x : Int) == nl 1000000000000000000 y)) = false := h1
  have he : nl 1000000000000000000 x = nl 1000000000000000000 y := by simp at h1; omega
  have hS : cmpS x y = if x < y then -1 else if y < x then 1 else 0 := by rw [cmpS, if_neg (by simp [he])]
  conv => whnf
  refine loop_inv Tryz.eok 80 (fun k : Nat => k ≤ nl 1000000000000000000 x ∧ x / 1000000000000000000 ^ k = y / 1000000000000000000 ^ k) (fun k => k)
    (fun k => slots [(0, massV x), (1, massV y), (5, i64 ((k : Int) - 1))] 0 43) (fun _ => []) (nl 1000000000000000000 x) [] ⟨Nat.le_refl _, ?_⟩ ?_ rfl ?_
  · rw [Nat.div_eq_of_lt (lt_pow_nl (by omega) x), he, Nat.div_eq_of_lt (lt_pow_nl (by omega) y)]
  · repeat' constructor
    exact w64_in (by omega)
  rintro k ⟨hk, hf⟩
  conv => whnf
  refine branchI (fun h1 => ?_) (fun h1 => ?_)
  · simp at h1
    obtain ⟨j, rfl⟩ : ∃ j, k = j + 1 := ⟨k - 1, by omega⟩
    have hw : ((j + 1 : Nat) : Int) - 1 = (j : Int) := by omega
    have hg1 : (decide (0 ≤ ((j + 1 : Nat) : Int) - 1) && decide (((j + 1 : Nat) : Int) - 1 < ((nl 1000000000000000000 x : Nat) : Int))) = true := by rw [hw]; exact guardI (by omega)
    have hg2 : (decide (0 ≤ ((j + 1 : Nat) : Int) - 1) && decide (((j + 1 : Nat) : Int) - 1 < ((nl 1000000000000000000 y : Nat) : Int))) = true := by rw [hw]; exact guardI (by omega)
    have dj : ∀ z : Nat, ((dg 1000000000000000000 z (((j + 1 : Nat) : Int) - 1).toNat : Nat) : Int) = (dg 1000000000000000000 z j : Nat) := fun z => by rw [hw]; rfl
    conv => whnf
    refine branchT hg1 ?_
    conv => whnf
    refine branchT hg2 ?_
    conv => whnf
    refine branchI (fun h2 => ?_) (fun h2 => ?_)
    · have h2 : decide (((dg 1000000000000000000 x (((j + 1 : Nat) : Int) - 1).toNat : Nat) : Int) < ((dg 1000000000000000000 y (((j + 1 : Nat) : Int) - 1).toNat : Nat) : Int)) = true := h2
      rw [dj, dj] at h2
      have h2 := of_decide_eq_true h2
      conv => whnf
      exact retI (by rw [hS, if_pos (lt_of_dg (by omega) hf (by omega))])
    have h2 : decide (((dg 1000000000000000000 x (((j + 1 : Nat) : Int) - 1).toNat : Nat) : Int) < ((dg 1000000000000000000 y (((j + 1 : Nat) : Int) - 1).toNat : Nat) : Int)) = false := h2
    rw [dj, dj] at h2
    have h2 := of_decide_eq_false h2
    conv => whnf
    refine branchT hg1 ?_
    conv => whnf
    refine branchT hg2 ?_
    conv => whnf
    refine branchI (fun h3 => ?_) (fun h3 => ?_)
    · have h3 : decide (((dg 1000000000000000000 y (((j + 1 : Nat) : Int) - 1).toNat : Nat) : Int) < ((dg 1000000000000000000 x (((j + 1 : Nat) : Int) - 1).toNat : Nat) : Int)) = true := h3
      rw [dj, dj] at h3
      have h3 := of_decide_eq_true h3
      have := lt_of_dg (b := 1000000000000000000) (by omega) hf.symm (show dg 1000000000000000000 y j < dg 1000000000000000000 x j by omega)
      conv => whnf
      exact retI (by rw [hS, if_neg (by omega), if_pos this])
    have h3 : decide (((dg 1000000000000000000 y (((j + 1 : Nat) : Int) - 1).toNat : Nat) : Int) < ((dg 1000000000000000000 x (((j + 1 : Nat) : Int) - 1).toNat : Nat) : Int)) = false := h3
    rw [dj, dj] at h3
    have h3 := of_decide_eq_false h3
    conv => whnf
    refine ⟨rfl, j, [], ⟨by omega, (div_eq_iff_dg hf).2 (by omega)⟩, by omega, rfl, ?_⟩
    repeat' constructor
    show IntKind.i64.wrap (((j + 1 : Nat) : Int) - 1 - 1) = (j : Int) - 1
    rw [hw]; exact w64_in (by omega)
  · simp at h1
    obtain rfl : k = 0 := by omega
    have hxy : x = y := by simpa using hf
    conv => whnf
    exact retI (by rw [hS, hxy, if_neg (by omega), if_neg (by omega)])
end Go.Proofs.YtkhbmendaapojaaGreatDoor
/- Sums as the program has them. -/
namespace Go.Proofs.YtkhbmendaapojaaGreatDoor
open Go Go.Vx Go.Num
set_option maxRecDepth 100000
attribute [local irreducible] CallV LoopV CodeV
/-- A row of integers as a block has it. -/
def gU (G : Nat → Int) : Nat → Nat → Int := fun i c => if c = 0 then G i else 0
theorem gU_row (k : IntKind) (n : Nat) (G : Nat → Int) : V.ro 1 n (fun i => [.int k (gU G (0 + i) 0)]) = V.ro 1 n (fun i => [.int k (G i)]) := by simp only [Nat.zero_add]; rfl
theorem gU_at (G : Nat → Int) (i : Nat) : gU G (0 + i) 0 = G i := by rw [Nat.zero_add]; rfl
theorem gU_up (G : Nat → Int) (i : Nat) (v : Int) : up2 (gU G) (0 + i) 0 v = gU (fun j => if j = i then v else G j) := by
  funext j c
  rw [Nat.zero_add]
  unfold up2 gU
  by_cases h1 : j = i <;> by_cases h2 : c = 0 <;> simp [h1, h2]
theorem gU_zero : (fun _ _ => 0 : Nat → Nat → Int) = gU (fun _ => 0) := by funext i c; unfold gU; split <;> rfl
theorem gU_cp (k : IntKind) (m : Nat) (f : Nat → Int) (G : Nat → Int) : cpF 0 m (gU G) (fun i c => cInt (nthV [.int k (f i)] c)) = gU (fun i => if i < m then f i else G i) := by
  funext i c
  unfold cpF gU
  have h1 : Nat.ble 0 i = true := Nat.ble_eq.mpr (Nat.zero_le i)
  rw [h1]
  cases h : Nat.blt (i - 0) m with
  | true =>
    have : i < m := by have := Nat.le_of_ble_eq_true h; omega
    simp only [this, if_true]
    cases c with
    | zero => rfl
    | succ c => rfl
  | false =>
    have : ¬ i < m := fun hc => by
      have : Nat.blt (i - 0) m = true := Nat.ble_eq.mpr (by omega)
      rw [this] at h; cases h
    simp only [this, if_false]
theorem gU_congr {F G : Nat → Int} (h : ∀ i, F i = G i) : gU F = gU G := by rw [funext h]
theorem u64_in {x : Int} (h : 0 ≤ x ∧ x < 18446744073709551616) : IntKind.u64.wrap x = x := by
  unfold IntKind.wrap
  simp [IntKind.bits, IntKind.signed]
  omega
/-- What lies beside the integers of a copied row. -/
abbrev cpB (k : IntKind) (m : Nat) (f : Nat → Int) : Nat → Nat → Bool := cpF 0 m (fun _ _ => false) (fun i c => cBool (nthV [.int k (f i)] c))
abbrev cpS (k : IntKind) (m : Nat) (f : Nat → Int) : Nat → Nat → List UInt8 := cpF 0 m (fun _ _ => []) (fun i c => cStr (nthV [.int k (f i)] c))
def pl1 (x y i j : Nat) : Int := if j < i then (dg 1000000000000000000 x j + dg 1000000000000000000 y j : Nat) else (dg 1000000000000000000 x j : Nat)
def pl2 (x y i j : Nat) : Int :=
  if j < i then (dg 1000000000000000000 (x + y) j : Nat) else if j = i then (dg 1000000000000000000 x j + dg 1000000000000000000 y j + carry 1000000000000000000 x y i : Nat) else (dg 1000000000000000000 x j + dg 1000000000000000000 y j : Nat)
theorem plus_pure (x y : Nat) (hx : nl 1000000000000000000 x < 1000000000) (hy : nl 1000000000000000000 y < 1000000000) :
    Pure Tryz.prog 121 [massV x, massV y] (fun o => o = .ret (massV (x + y))) := by
  refine pure_of Tryz.func121 rfl 200 ?_
  obtain ⟨m, hm⟩ : ∃ m : Nat, m = if nl 1000000000000000000 x < nl 1000000000000000000 y then nl 1000000000000000000 y else nl 1000000000000000000 x := ⟨_, rfl⟩
  have hm1 : nl 1000000000000000000 x ≤ m ∧ nl 1000000000000000000 y ≤ m ∧ m < 1000000000 := by rw [hm]; split <;> omega
  have hL : IntKind.i64.wrap ((if (nl 1000000000000000000 x : Int) < (nl 1000000000000000000 y : Int) then (nl 1000000000000000000 y : Int) else (nl 1000000000000000000 x : Int)) + 1) = ((m + 1 : Nat) : Int) := by
    have : (if (nl 1000000000000000000 x : Int) < (nl 1000000000000000000 y : Int) then (nl 1000000000000000000 y : Int) else (nl 1000000000000000000 x : Int)) = (m : Int) := by rw [hm]; split <;> split <;> omega
    rw [this]; exact w64_nat (by omega)
  clear hm
  have hxm : x < 1000000000000000000 ^ m := Nat.lt_of_lt_of_le (lt_pow_nl (by omega) x) (Nat.pow_le_pow_right (by omega) hm1.1)
  have hym : y < 1000000000000000000 ^ m := Nat.lt_of_lt_of_le (lt_pow_nl (by omega) y) (Nat.pow_le_pow_right (by omega) hm1.2.1)
  conv => whnf
  refine branchT (by rw [hL, show (Tryz.E.T 133).bytes = 8 from rfl]; simp; omega) ?_
  conv => whnf
  refine ⟨fun i hi => rfl, ?_⟩
  conv => whnf
  refine branchT (by rw [hL]; simp; omega) ?_
  conv => whnf
  refine loop_inv Tryz.eok 180 (fun i : Nat => i ≤ nl 1000000000000000000 y) (fun i => nl 1000000000000000000 y - i)
    (fun i => slots [(5, .sl 0 1 0 (m + 1) (m + 1)), (19, massV y), (20, i64 (nl 1000000000000000000 y)), (21, i64 i)] 0 61)
    (fun i => [.arr 133 [.int .u64] (gU (pl1 x y i)) (cpB .u64 (nl 1000000000000000000 x) (fun i => (dg 1000000000000000000 x i : Nat))) (cpS .u64 (nl 1000000000000000000 x) (fun i => (dg 1000000000000000000 x i : Nat)))]) 0 [] (Nat.zero_le _) ?_ rfl ?_
  · repeat' constructor
    · rw [hL]; rfl
    · rw [hL]; exact Nat.le_refl _
    · show cpF 0 (nl 1000000000000000000 x) (fun _ _ => 0) (fun i c => cInt (nthV [.int .u64 (dg 1000000000000000000 x i : Nat)] c)) = _
      rw [gU_zero, gU_cp]
      refine gU_congr fun i => ?_
      unfold pl1
      rw [if_neg (Nat.not_lt_zero i)]
      split
      · rfl
      · rw [dg_ge (by omega) (by omega)]; rfl
  intro i hi
  conv => whnf
  refine branchI (fun h1 => ?_) (fun h1 => ?_)
  · simp at h1
    have key : up2 (gU (pl1 x y i)) (0 + i) 0 (IntKind.u64.wrap (gU (pl1 x y i) (0 + i) 0 + (dg 1000000000000000000 y i : Nat))) = gU (pl1 x y (i + 1)) := by
      rw [gU_at, gU_up]
      refine gU_congr fun j => ?_
      have d1 := dg_lt (b := 1000000000000000000) (by omega) x i
      have d2 := dg_lt (b := 1000000000000000000) (by omega) y i
      unfold pl1
      by_cases hj : j = i
      · subst hj
        rw [if_pos rfl, if_neg (Nat.lt_irrefl _), if_pos (by omega), u64_in (by omega)]; omega
      · rw [if_neg hj]
        by_cases hj2 : j < i
        · rw [if_pos hj2, if_pos (by omega)]
        · rw [if_neg hj2, if_neg (by omega)]
    conv => whnf
    refine branchT (guardI (by omega)) ?_
    conv => whnf
    refine branchT (guardI (by omega)) ?_
    conv => whnf
    refine branchT (guardI (by omega)) ?_
    conv => whnf
    refine ⟨rfl, i + 1, [], h1, by omega, rfl, ?_⟩
    repeat' constructor
    · exact w64_nat (by omega)
    · exact key
  simp at h1
  obtain rfl : i = nl 1000000000000000000 y := by omega
  conv => whnf
  refine loop_inv Tryz.eok 150 (fun i : Nat => i ≤ m) (fun i => m - i)
    (fun i => slots [(5, .sl 0 1 0 (m + 1) (m + 1)), (36, i64 m), (37, i64 i)] 0 61)
    (fun i => [.arr 133 [.int .u64] (gU (pl2 x y i)) (cpB .u64 (nl 1000000000000000000 x) (fun i => (dg 1000000000000000000 x i : Nat))) (cpS .u64 (nl 1000000000000000000 x) (fun i => (dg 1000000000000000000 x i : Nat)))]) 0 [] (Nat.zero_le _) ?_ rfl ?_
  · repeat' constructor
    · rw [w64_in (by omega)]; omega
    · refine gU_congr fun j => ?_
      unfold pl1 pl2
      rw [carry_zero, if_neg (Nat.not_lt_zero j)]
      split
      · split <;> rfl
      · rw [dg_ge (n := y) (by omega) (by omega)]
        split <;> rfl
  intro i hi
  conv => whnf
  refine branchI (fun h1 => ?_) (fun h1 => ?_)
  · simp at h1
    have d1 := dg_lt (b := 1000000000000000000) (by omega) x i
    have d2 := dg_lt (b := 1000000000000000000) (by omega) y i
    have d3 := carry_le (b := 1000000000000000000) (by omega) x y i
    have d4 := dg_lt (b := 1000000000000000000) (by omega) x (i + 1)
    have d5 := dg_lt (b := 1000000000000000000) (by omega) y (i + 1)
    have ss := sum_step (b := 1000000000000000000) (by omega) x y i
    have d6 := carry_le (b := 1000000000000000000) (by omega) x y (i + 1)
    have d7 := dg_lt (b := 1000000000000000000) (by omega) (x + y) i
    have at0 : pl2 x y i i = (dg 1000000000000000000 x i + dg 1000000000000000000 y i + carry 1000000000000000000 x y i : Nat) := by unfold pl2; rw [if_neg (by omega), if_pos rfl]
    have at1 : pl2 x y i (i + 1) = (dg 1000000000000000000 x (i + 1) + dg 1000000000000000000 y (i + 1) : Nat) := by unfold pl2; rw [if_neg (by omega), if_neg (by omega)]
    conv => whnf
    refine branchT (guardI (by omega)) ?_
    conv => whnf
    refine branchI (fun h2 => ?_) (fun h2 => ?_)
    · have h2 : decide (1000000000000000000 ≤ gU (pl2 x y i) (0 + i) 0) = true := h2
      rw [gU_at, at0] at h2
      have h2 := of_decide_eq_true h2
      have hc1 : carry 1000000000000000000 x y (i + 1) = 1 := by omega
      have key : ∀ k, k = i + 1 → up2 (up2 (gU (pl2 x y i)) (0 + i) 0 (IntKind.u64.wrap (gU (pl2 x y i) (0 + i) 0 - 1000000000000000000))) (0 + k) 0
          (IntKind.u64.wrap (up2 (gU (pl2 x y i)) (0 + i) 0 (IntKind.u64.wrap (gU (pl2 x y i) (0 + i) 0 - 1000000000000000000)) (0 + k) 0 + 1)) = gU (pl2 x y (i + 1)) := by
        rintro k rfl
        rw [gU_at, gU_up, gU_at, gU_up, at0, if_neg (by omega), at1, u64_in (by omega), u64_in (by omega)]
        refine gU_congr fun j => ?_
        by_cases hj : j = i + 1
        · subst hj
          rw [if_pos rfl]; unfold pl2; rw [if_neg (by omega), if_pos rfl]; omega
        · rw [if_neg hj]
          by_cases hj2 : j = i
          · subst hj2
            rw [if_pos rfl]; unfold pl2; rw [if_pos (by omega)]; omega
          · rw [if_neg hj2]; unfold pl2
            by_cases hj3 : j < i
            · rw [if_pos hj3, if_pos (by omega)]
            · rw [if_neg hj3, if_neg hj2, if_neg (by omega), if_neg hj]
      conv => whnf
      refine branchT (guardI (by omega)) ?_
      conv => whnf
      refine branchT (guardI (by omega)) ?_
      conv => whnf
      refine branchT (by rw [w64_nat (by omega)]; exact guardI (by omega)) ?_
      conv => whnf
      refine branchT (by rw [w64_nat (by omega)]; exact guardI (by omega)) ?_
      conv => whnf
      refine ⟨rfl, i + 1, [], h1, by omega, rfl, ?_⟩
      repeat' constructor
      · exact w64_nat (by omega)
      · exact key _ (by rw [w64_nat (by omega)]; rfl)
    · have h2 : decide (1000000000000000000 ≤ gU (pl2 x y i) (0 + i) 0) = false := h2
      rw [gU_at, at0] at h2
      have h2 := of_decide_eq_false h2
      have hc1 : carry 1000000000000000000 x y (i + 1) = 0 := by omega
      have key : gU (pl2 x y i) = gU (pl2 x y (i + 1)) := by
        refine gU_congr fun j => ?_
        by_cases hj : j = i + 1
        · subst hj
          rw [at1]; unfold pl2; rw [if_neg (by omega), if_pos rfl]; omega
        · by_cases hj2 : j = i
          · subst hj2
            rw [at0]; unfold pl2; rw [if_pos (by omega)]; omega
          · unfold pl2
            by_cases hj3 : j < i
            · rw [if_pos hj3, if_pos (by omega)]
            · rw [if_neg hj3, if_neg hj2, if_neg (by omega), if_neg hj]
      conv => whnf
      refine ⟨rfl, i + 1, [], h1, by omega, rfl, ?_⟩
      repeat' constructor
      · exact w64_nat (by omega)
      · exact key
  simp at h1
  obtain rfl : i = m := by omega
  have fin : pl2 x y i = fun j => ((dg 1000000000000000000 (x + y) j : Nat) : Int) := by
    funext j
    unfold pl2
    by_cases hj : j < i
    · rw [if_pos hj]
    · rw [if_neg hj]
      by_cases hj2 : j = i
      · subst hj2
        rw [if_pos rfl, sum_dg (by omega), dg_big hxm, dg_big hym, Nat.mod_eq_of_lt (by have := carry_le (b := 1000000000000000000) (by omega) x y j; omega)]
      · have p1 : 1000000000000000000 ^ (i + 1) ≤ 1000000000000000000 ^ j := Nat.pow_le_pow_right (by omega) (by omega)
        rw [Nat.pow_succ] at p1
        rw [if_neg hj2, dg_big (n := x) (by omega), dg_big (n := y) (by omega), dg_big (n := x + y) (by omega)]
  conv => whnf
  refine callP1 (trim_mass (n := x + y) (k := i + 1) (g := pl2 x y i) fin (by rw [Nat.pow_succ]; omega) (by omega) ?hW) rfl ?_
  case hW => exact congrArg (fun v => [v]) (gU_row .u64 _ _)
  conv => whnf
  rfl
end Go.Proofs.YtkhbmendaapojaaGreatDoor
/- Differences as the program has them. -/
namespace Go.Proofs.YtkhbmendaapojaaGreatDoor
open Go Go.Vx Go.Num
set_option maxRecDepth 100000
attribute [local irreducible] CallV LoopV CodeV
theorem gU_app (k : IntKind) (f : Nat → Int) (F : Nat → Nat → Int) : appF 0 F (fun i c => cInt (nthV [.int k (f i)] c)) = gU f := by
  funext i c
  rw [appF_ge (Nat.zero_le i)]
  unfold gU
  cases c <;> rfl
theorem fits_ok {b n : Nat} (hb : b ≤ 8) (h : n ≤ 1000000000) : fits b n = true := by
  unfold fits
  have : n * b ≤ 1000000000 * 8 := Nat.mul_le_mul h hb
  rw [Bool.and_eq_true]
  exact ⟨decide_eq_true (by omega), decide_eq_true (by omega)⟩
def mi1 (x y i j : Nat) : Int := if j < i then (dg 1000000000000000000 (x - y) j : Nat) else (dg 1000000000000000000 x j : Nat)
noncomputable abbrev apB (m : Nat) (f : Nat → Int) : Nat → Nat → Bool := appF 0 (fun i => (fun i c => cBool (nthV (List.replicate 0 (Tryz.E.T 133).zero).flatten (i * (0 + 1) + c))) (0 + i)) (fun i c => cBool (nthV [.int .u64 (f i)] c))
noncomputable abbrev apS (m : Nat) (f : Nat → Int) : Nat → Nat → List UInt8 := appF 0 (fun i => (fun i c => cStr (nthV (List.replicate 0 (Tryz.E.T 133).zero).flatten (i * (0 + 1) + c))) (0 + i)) (fun i c => cStr (nthV [.int .u64 (f i)] c))
theorem minus_pure (x y : Nat) (hyx : y ≤ x) (hx : nl 1000000000000000000 x < 1000000000) :
    Pure Tryz.prog 123 [massV x, massV y] (fun o => o = .ret (massV (x - y))) := by
  refine pure_of Tryz.func123 rfl 200 ?_
  have hy : nl 1000000000000000000 y ≤ nl 1000000000000000000 x := nl_mono (by omega) hyx
  conv => whnf
  rintro i (rfl | ⟨rfl, hz⟩)
  · conv => whnf
    refine ⟨fun i hi => rfl, ?_⟩
    conv => whnf
    refine branchT (fits_ok (Nat.le_refl 8) (by show 0 + nl 1000000000000000000 x ≤ _; omega)) ?_
    conv => whnf
    refine loop_inv Tryz.eok 180 (fun i : Nat => i ≤ nl 1000000000000000000 x) (fun i => nl 1000000000000000000 x - i)
      (fun i => slots [(1, massV y), (5, .sl 1 1 0 (nl 1000000000000000000 x) (nl 1000000000000000000 x)), (6, u64 (bor 1000000000000000000 x y i)), (12, i64 (nl 1000000000000000000 x)), (13, i64 i)] 0 49)
      (fun i => [.dead, .arr 133 [.int .u64] (gU (mi1 x y i)) (apB (nl 1000000000000000000 x) (fun i => (dg 1000000000000000000 x i : Nat))) (apS (nl 1000000000000000000 x) (fun i => (dg 1000000000000000000 x i : Nat)))]) 0 [] (Nat.zero_le _) ?_ rfl ?_
    · repeat' constructor
      · exact Nat.zero_add _
      · exact Nat.le_of_eq (Nat.zero_add _).symm
      · rw [bor_zero]; rfl
      · exact congrArg Nat.cast (Nat.zero_add (nl 1000000000000000000 x))
      · refine (gU_app .u64 (fun i => (dg 1000000000000000000 x i : Nat)) _).trans (gU_congr fun j => ?_)
        unfold mi1; rw [if_neg (Nat.not_lt_zero j)]
    intro i hi
    conv => whnf
    refine branchI (fun h1 => ?_) (fun h1 => ?_)
    · simp at h1
      have at0 : mi1 x y i i = (dg 1000000000000000000 x i : Nat) := by unfold mi1; rw [if_neg (by omega)]
      have d1 := dg_lt (b := 1000000000000000000) (by omega) x i
      have d2 := dg_lt (b := 1000000000000000000) (by omega) y i
      have d3 := bor_le 1000000000000000000 x y i
      have d4 := bor_le 1000000000000000000 x y (i + 1)
      have d5 := dg_lt (b := 1000000000000000000) (by omega) (x - y) i
      have ds := dif_step (b := 1000000000000000000) (by omega) hyx i
      have key1 : ∀ l : Int, l = ((dg 1000000000000000000 y i + bor 1000000000000000000 x y i : Nat) : Int) → decide (gU (mi1 x y i) (0 + i) 0 < l) = true →
          (1 : Int) = ((bor 1000000000000000000 x y (i + 1) : Nat) : Int) ∧ up2 (up2 (gU (mi1 x y i)) (0 + i) 0 (IntKind.u64.wrap (gU (mi1 x y i) (0 + i) 0 + 1000000000000000000))) (0 + i) 0
          (IntKind.u64.wrap (up2 (gU (mi1 x y i)) (0 + i) 0 (IntKind.u64.wrap (gU (mi1 x y i) (0 + i) 0 + 1000000000000000000)) (0 + i) 0 - l)) = gU (mi1 x y (i + 1)) := by
        intro l hl h3
        rw [gU_at, at0] at h3
        have h3 := of_decide_eq_true h3
        have hb : bor 1000000000000000000 x y (i + 1) = 1 := by omega
        refine ⟨by rw [hb]; rfl, ?_⟩
        rw [gU_at, gU_up, gU_at, gU_up, at0, if_pos rfl, u64_in (x := _ + _) (by omega), u64_in (by omega)]
        refine gU_congr fun j => ?_
        by_cases hj : j = i
        · subst hj
          rw [if_pos rfl]; unfold mi1; rw [if_pos (by omega)]; omega
        · rw [if_neg hj, if_neg hj]; unfold mi1
          by_cases hj2 : j < i
          · rw [if_pos hj2, if_pos (by omega)]
          · rw [if_neg hj2, if_neg (by omega)]
      have key0 : ∀ l : Int, l = ((dg 1000000000000000000 y i + bor 1000000000000000000 x y i : Nat) : Int) → decide (gU (mi1 x y i) (0 + i) 0 < l) = false →
          (0 : Int) = ((bor 1000000000000000000 x y (i + 1) : Nat) : Int) ∧ up2 (gU (mi1 x y i)) (0 + i) 0 (IntKind.u64.wrap (gU (mi1 x y i) (0 + i) 0 - l)) = gU (mi1 x y (i + 1)) := by
        intro l hl h3
        rw [gU_at, at0] at h3
        have h3 := of_decide_eq_false h3
        have hb : bor 1000000000000000000 x y (i + 1) = 0 := by omega
        refine ⟨by rw [hb]; rfl, ?_⟩
        rw [gU_at, gU_up, at0, u64_in (by omega)]
        refine gU_congr fun j => ?_
        by_cases hj : j = i
        · subst hj
          rw [if_pos rfl]; unfold mi1; rw [if_pos (by omega)]; omega
        · rw [if_neg hj]; unfold mi1
          by_cases hj2 : j < i
          · rw [if_pos hj2, if_pos (by omega)]
          · rw [if_neg hj2, if_neg (by omega)]
      conv => whnf
      refine branchI (fun h2 => ?_) (fun h2 => ?_)
      · simp at h2
        have hl : IntKind.u64.wrap ((bor 1000000000000000000 x y i : Int) + (dg 1000000000000000000 y i : Nat)) = ((dg 1000000000000000000 y i + bor 1000000000000000000 x y i : Nat) : Int) := by rw [u64_in (by omega)]; omega
        conv => whnf
        refine branchT (guardI (by omega)) ?_
        conv => whnf
        refine branchT (guardI (by omega)) ?_
        conv => whnf
        refine branchI (fun h3 => ?_) (fun h3 => ?_)
        · obtain ⟨k1, k2⟩ := key1 _ hl h3
          conv => whnf
          refine branchT (guardI (by omega)) ?_
          conv => whnf
          refine branchT (guardI (by omega)) ?_
          conv => whnf
          refine branchT (guardI (by omega)) ?_
          conv => whnf
          refine branchT (guardI (by omega)) ?_
          conv => whnf
          refine ⟨rfl, i + 1, [], h1, by omega, rfl, ?_⟩
          repeat' constructor
          · exact k1
          · exact w64_nat (by omega)
          · exact k2
        · obtain ⟨k1, k2⟩ := key0 _ hl h3
          conv => whnf
          refine branchT (guardI (by omega)) ?_
          conv => whnf
          refine branchT (guardI (by omega)) ?_
          conv => whnf
          refine ⟨rfl, i + 1, [], h1, by omega, rfl, ?_⟩
          repeat' constructor
          · exact k1
          · exact w64_nat (by omega)
          · exact k2
      · simp at h2
        have hl : ((bor 1000000000000000000 x y i : Nat) : Int) = ((dg 1000000000000000000 y i + bor 1000000000000000000 x y i : Nat) : Int) := by rw [dg_ge (n := y) (by omega) h2, Nat.zero_add]
        conv => whnf
        refine branchT (guardI (by omega)) ?_
        conv => whnf
        refine branchI (fun h3 => ?_) (fun h3 => ?_)
        · obtain ⟨k1, k2⟩ := key1 _ hl h3
          conv => whnf
          refine branchT (guardI (by omega)) ?_
          conv => whnf
          refine branchT (guardI (by omega)) ?_
          conv => whnf
          refine branchT (guardI (by omega)) ?_
          conv => whnf
          refine branchT (guardI (by omega)) ?_
          conv => whnf
          refine ⟨rfl, i + 1, [], h1, by omega, rfl, ?_⟩
          repeat' constructor
          · exact k1
          · exact w64_nat (by omega)
          · exact k2
        · obtain ⟨k1, k2⟩ := key0 _ hl h3
          conv => whnf
          refine branchT (guardI (by omega)) ?_
          conv => whnf
          refine branchT (guardI (by omega)) ?_
          conv => whnf
          refine ⟨rfl, i + 1, [], h1, by omega, rfl, ?_⟩
          repeat' constructor
          · exact k1
          · exact w64_nat (by omega)
          · exact k2
    simp at h1
    obtain rfl : i = nl 1000000000000000000 x := by omega
    have hlt : x - y < 1000000000000000000 ^ nl 1000000000000000000 x := Nat.lt_of_le_of_lt (Nat.sub_le x y) (lt_pow_nl (by omega) x)
    have fin : mi1 x y (nl 1000000000000000000 x) = fun j => ((dg 1000000000000000000 (x - y) j : Nat) : Int) := by
      funext j
      unfold mi1
      split
      · rfl
      · rw [dg_ge (n := x) (by omega) (by omega), dg_ge (n := x - y) (by omega) (Nat.le_trans (nl_mono (by omega) (Nat.sub_le x y)) (by omega))]
    conv => whnf
    refine callP1 (trim_mass (n := x - y) (k := nl 1000000000000000000 x) (g := mi1 x y (nl 1000000000000000000 x)) fin hlt (by omega) ?hW) rfl ?_
    case hW => exact congrArg (fun v => [v]) (gU_row .u64 _ _)
    conv => whnf
    rfl
  · have hx0 : x = 0 := (nl_eq_zero (by omega)).1 hz
    obtain rfl : y = 0 := by omega
    subst hx0
    conv => whnf
    refine loop_unroll Tryz.eok 100 3 ?_
    conv => whnf
    refine callP1 ((trim_mass (n := 0) (k := 0) (g := fun i => (dg 1000000000000000000 0 i : Nat)) rfl (by decide) (by decide) rfl).args (.cons (.nil _ _) .nil)) rfl ?_
    conv => whnf
    rfl
end Go.Proofs.YtkhbmendaapojaaGreatDoor
