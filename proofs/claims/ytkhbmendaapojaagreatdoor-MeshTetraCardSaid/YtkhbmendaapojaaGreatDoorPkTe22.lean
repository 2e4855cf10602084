/- The chapter's examples: what each call answers. The chapter's examples: works. MeshTetra: four points, any coordinates. From the data that arguments read as to abstract values. A law's contract on abstract values says what the law's row asks. MeshTetra: from what fits its parameters. What this seat's laws share: the variables that are listed, a start that fits. Printed by a program. MeshTetra: the law of the chapter holds of every input: its row, and its card. -/
import Derived.Test.YtkhbmendaapojaaGreatDoorPkTe21
import Derived.Test.YtkhbmendaapojaaGreatDoorPkTe12
import Derived.OpenShut
import Derived.DataReads
import Derived.Below
import Derived.ChangeSame
import Derived.Carry
import Derived.ProofKit
import Derived.Test.YtkhbmendaapojaaGreatDoorPkTe11
import Derived.Test.YtkhbmendaapojaaGreatDoorTie
import Derived.Test.YtkhbmendaapojaaGreatDoorCards
import Derived.LaidMore
import Derived.LaidHandle
import Derived.Stop.Joined
import Derived.ChangeVars
import Derived.JoinedOf
import Derived.RowKitTokens
import Derived.LaidLaws
set_option linter.unusedSimpArgs false
set_option linter.unusedVariables false
/- The chapter's examples: what each call answers. -/
namespace Go.Proofs.YtkhbmendaapojaaGreatDoor
open Go Go.Vx Go.Num
set_option maxRecDepth 100000
theorem te_vol : Pure Tryz.prog 11 [meshV 4 teP 4 teF] (fun o => o = .ret (.tup [.str [49, 48, 48, 48, 48, 48, 48, 48, 48, 48], i64 0])) := by
  have h := vol_pure 4 teP 4 teF
  rwa [volS, tetra_flaw, if_neg (by decide), show decZ (volZ teP teF 4) = [49, 48, 48, 48, 48, 48, 48, 48, 48, 48] by decide +kernel] at h
theorem te_eul : Pure Tryz.prog 13 [meshV 4 teP 4 teF] (fun o => o = .ret (.tup [i64 6, i64 2, i64 0])) := by
  have h := meuler_pure 4 teP 4 teF
  rwa [eulerS, tetra_flaw, if_neg (by decide)] at h
theorem te_box : Pure Tryz.prog 15 [meshV 4 teP 4 teF] (fun o => o = .ret (.tup [pt 0 0 0, pt 1000 1000 1000, i64 0])) := by
  have h := box_pure 4 teP 4 teF
  rwa [boxS, tetra_flaw, if_neg (by decide)] at h
theorem te_turn : Pure Tryz.prog 18 [meshV 4 teP 4 teF] (fun o => o = .ret (.tup [meshV 4 teP 4 (turnF teF), i64 0])) := by
  have h := turned_pure 4 teP 4 teF
  rwa [turnedS, tetra_flaw, if_neg (by decide)] at h
open Classical in
theorem tu_reach : ∀ i, i < 4 → reachN (turnF teF) 4 i = true := by
  have h0 : Reach (nb (turnF teF) (mapN (turnF teF) 4)) 0 := .zero
  intro i hi
  unfold reachN
  apply decide_eq_true
  have hi : i = 0 ∨ i = 1 ∨ i = 2 ∨ i = 3 := by omega
  rcases hi with rfl | rfl | rfl | rfl
  · exact h0
  · exact Reach.step 0 1 h0 (by decide +kernel)
  · exact Reach.step 0 2 h0 (by decide +kernel)
  · exact Reach.step 0 3 h0 (by decide +kernel)
theorem tu_flaw : flawS 4 teP 4 (turnF teF) = (0, 0) := by
  have hs : singleS 4 teP 4 (turnF teF) = (0, 0) := by decide +kernel
  have h3 : first (fun i => dupF (turnF teF) i (mapN (turnF teF) i)) 0 4 = none := by decide +kernel
  have h4 : first (fun i => openF (turnF teF) (mapN (turnF teF) 4) i) 0 4 = none := by decide +kernel
  have h5 : first (fun i => false == usedN (turnF teF) 4 i 0) 0 4 = none := by decide +kernel
  have h6 : first (fun i => false == reachN (turnF teF) 4 i) 0 4 = none := by
    simp only [first, tu_reach 0 (by omega), tu_reach 1 (by omega), tu_reach 2 (by omega), tu_reach 3 (by omega)]
    rfl
  rw [flawS, hs, if_neg (by decide), h3, h4, h5, h6]
theorem tu_vol : Pure Tryz.prog 11 [meshV 4 teP 4 (turnF teF)] (fun o => o = .ret (.tup [.str [45, 49, 48, 48, 48, 48, 48, 48, 48, 48, 48], i64 0])) := by
  have h := vol_pure 4 teP 4 (turnF teF)
  rwa [volS, tu_flaw, if_neg (by decide), show decZ (volZ teP (turnF teF) 4) = [45, 49, 48, 48, 48, 48, 48, 48, 48, 48, 48] by decide +kernel] at h
theorem te_mov : Pure Tryz.prog 21 [meshV 4 teP 4 teF, pt 199000 0 0] (fun o => o = .ret (.tup [meshV 4 (movP teP 199000 0 0) 4 teF, i64 0])) := by
  have h := moved_pure 4 teP 4 teF 199000 0 0
  rwa [movedS, tetra_flaw, if_neg (by decide), if_neg (by decide), if_neg (by decide +kernel)] at h
theorem te_mov2 : Pure Tryz.prog 21 [meshV 4 teP 4 teF, pt 199001 0 0] (fun o => o = .ret (.tup [noMesh, i64 6])) := by
  have h := moved_pure 4 teP 4 teF 199001 0 0
  rwa [movedS, tetra_flaw, if_neg (by decide), if_neg (by decide), if_pos (by decide +kernel)] at h
theorem flawed_at {np : Nat} {P : Nat → Nat → Int} {nf : Nat} {F : Nat → Nat → Int} {k a : Int} (h : flawS np P nf F = (k, a)) {U : V} (hU : SubV U (meshV np P nf F)) : Pure Tryz.prog 28 [U, i64 k, i64 a] (fun o => o = .ret (.bool true)) := by
  have h2 := flawed_pure np P nf F k a
  rw [h, decide_eq_true rfl] at h2
  exact h2.args (.cons hU (.refl _))
end Go.Proofs.YtkhbmendaapojaaGreatDoor
/- The chapter's examples: works. -/
namespace Go.Proofs.YtkhbmendaapojaaGreatDoor
open Go Go.Vx Go.Num
set_option maxRecDepth 100000
attribute [local irreducible] CallV LoopV CodeV
def movL (i c : Nat) : Int := match i, c with
  | 1, 0 => 200000
  | _, 0 => 199000
  | 2, 1 => 1000
  | 3, 2 => 1000
  | _, _ => 0
theorem movL_eq : ∀ i, i < 4 → movP teP 199000 0 0 i 0 = movL i 0 ∧ movP teP 199000 0 0 i 1 = movL i 1 ∧ movP teP 199000 0 0 i 2 = movL i 2 := by decide +kernel
theorem te_mov1 : Pure Tryz.prog 21 [meshV 4 teP 4 teF, pt 199000 0 0] (fun o => o = .ret (.tup [meshV 4 movL 4 teF, i64 0])) := by
  refine Pure.retSub (te_mov.mono fun o ho => ?_)
  rw [ho]
  refine RetSub.of (.tup (.cons (.agg (.cons (SubV.ro fun i hi => ?_) (.cons (.refl _) .nil))) (.refl _)))
  obtain ⟨h1, h2, h3⟩ := movL_eq i hi
  show [i64 (movP teP 199000 0 0 i 0), i64 (movP teP 199000 0 0 i 1), i64 (movP teP 199000 0 0 i 2)] = [i64 (movL i 0), i64 (movL i 1), i64 (movL i 2)]
  rw [h1, h2, h3]
theorem te_mov0 : ∃ (N : Nat) (e : Int) (M : Nat → Nat → Int), N = 4 ∧ e = 0 ∧ (M 1 0 = 200000 ∧ M 1 1 = 0 ∧ M 1 2 = 0) ∧ Pure Tryz.prog 21 [meshV 4 teP 4 teF, pt 199000 0 0] (fun o => o = .ret (.tup [meshV N M 4 teF, i64 e])) :=
  ⟨4, 0, movL, rfl, rfl, by decide +kernel, te_mov1⟩
theorem subMesh {np nf : Nat} {gi hi P F : Nat → Nat → Int} (h1 : ∀ i c, i < np → c < 3 → gi i c = P i c) (h2 : ∀ i c, i < nf → c < 3 → hi i c = F i c) :
    SubV (.agg [.ro 3 np (fun i => [i64 (gi (0 + i) 0), i64 (gi (0 + i) 1), i64 (gi (0 + i) 2)]), .ro 3 nf (fun i => [i64 (hi (0 + i) 0), i64 (hi (0 + i) 1), i64 (hi (0 + i) 2)])]) (meshV np P nf F) :=
  .agg (.cons (subRow h1) (.cons (subRow h2) .nil))
set_option maxHeartbeats 2000000 in
theorem works_pure : Pure Tryz.prog 17 [] (fun o => o = .ret (.bool true)) := by
  refine pure_of0 Tryz.func17 rfl 400 ?_
  conv => whnf
  refine callP1 tetra_pure rfl ?_
  conv => whnf
  refine callS_frame tetra_call [] (by repeat' constructor) rfl rfl rfl rfl ?_
  rintro _ _ ⟨gi1, hi1, gb1, hb1, gs1, hs1, rfl, rfl, a1, b1⟩
  refine ⟨rfl, rfl, rfl, rfl, ?_⟩
  conv => whnf
  refine callS_frame tetra_call [] (by repeat' constructor) rfl rfl rfl rfl ?_
  rintro _ _ ⟨gi2, hi2, gb2, hb2, gs2, hs2, rfl, rfl, a2, b2⟩
  refine ⟨rfl, rfl, rfl, rfl, ?_⟩
  conv => whnf
  refine callS_frame tetra_call [] (by repeat' constructor) rfl rfl rfl rfl ?_
  rintro _ _ ⟨gi3, hi3, gb3, hb3, gs3, hs3, rfl, rfl, a3, b3⟩
  refine ⟨rfl, rfl, rfl, rfl, ?_⟩
  conv => whnf
  refine callS_frame tetra_call [] (by repeat' constructor) rfl rfl rfl rfl ?_
  rintro _ _ ⟨gi4, hi4, gb4, hb4, gs4, hs4, rfl, rfl, a4, b4⟩
  refine ⟨rfl, rfl, rfl, rfl, ?_⟩
  conv => whnf
  refine callF1 te_vol rfl rfl ?_
  conv => whnf
  refine callF1 te_eul rfl rfl ?_
  conv => whnf
  refine callF1 te_box rfl rfl ?_
  conv => whnf
  refine callF1 (flawed_at tetra_flaw (.refl _)) rfl rfl ?_
  conv => whnf
  obtain ⟨eh, he, hturn⟩ : ∃ e : Int, e = 0 ∧ Pure Tryz.prog 18 [meshV 4 teP 4 teF] (fun o => o = .ret (.tup [meshV 4 teP 4 (turnF teF), i64 e])) := ⟨0, rfl, te_turn⟩
  refine callP1 hturn rfl ?_
  conv => whnf
  obtain ⟨l, ei, hl, hi, hvol⟩ : ∃ (l : List UInt8) (e : Int), l = [45, 49, 48, 48, 48, 48, 48, 48, 48, 48, 48] ∧ e = 0 ∧ Pure Tryz.prog 11 [meshV 4 teP 4 (turnF teF)] (fun o => o = .ret (.tup [.str l, i64 e])) := ⟨_, 0, rfl, rfl, tu_vol⟩
  refine callF1 hvol rfl rfl ?_
  conv => whnf
  obtain ⟨N, ej, M, hN, hj, ⟨m0, m1, m2⟩, hmov⟩ := te_mov0
  refine callP1 hmov rfl ?_
  conv => whnf
  obtain ⟨ef, hf, hmov2⟩ : ∃ e : Int, e = 6 ∧ Pure Tryz.prog 21 [meshV 4 teP 4 teF, pt 199001 0 0] (fun o => o = .ret (.tup [noMesh, i64 e])) := ⟨6, rfl, te_mov2⟩
  refine callF1 hmov2 rfl rfl ?_
  conv => whnf
  refine branchF (by rw [he]; rfl) ?_
  conv => whnf
  refine branchF (by rw [hl]; rfl) ?_
  conv => whnf
  refine branchF (by rw [hi]; rfl) ?_
  conv => whnf
  refine branchF (by rw [hj]; rfl) ?_
  conv => whnf
  refine branchF (by rw [hf]; rfl) ?_
  conv => whnf
  refine branchF (by rw [hN]; rfl) ?_
  conv => whnf
  refine branchT (by rw [hN]; rfl) ?_
  conv => whnf
  refine branchF (by show (!(M 1 0 == 200000 && (M 1 1 == 0 && (M 1 2 == 0 && true)))) = false; rw [m0, m1, m2]; rfl) ?_
  conv => whnf
  refine callF1 (flawed_at less_flaw (subMesh a1 fun i c h1 h2 => b1 i c (by omega) h2)) rfl rfl ?_
  conv => whnf
  refine callF1 (flawed_at turned_flaw ?s2) rfl rfl ?_
  case s2 =>
    refine subMesh a2 fun i c h1 h2 => ?_
    have hi : i = 0 ∨ i = 1 ∨ i = 2 ∨ i = 3 := by omega
    have hc : c = 0 ∨ c = 1 ∨ c = 2 := by omega
    rcases hi with rfl | rfl | rfl | rfl <;> rcases hc with rfl | rfl | rfl <;> first | rfl | exact b2 _ _ (by decide) (by decide)
  conv => whnf
  refine callF1 (flawed_at flat_flaw ?s3) rfl rfl ?_
  case s3 =>
    refine subMesh (fun i c h1 h2 => ?_) b3
    have hi : i = 0 ∨ i = 1 ∨ i = 2 ∨ i = 3 := by omega
    have hc : c = 0 ∨ c = 1 ∨ c = 2 := by omega
    rcases hi with rfl | rfl | rfl | rfl <;> rcases hc with rfl | rfl | rfl <;> first | rfl | exact a3 _ _ (by decide) (by decide)
  conv => whnf
  refine callF1 (flawed_at twice_flaw ?s4) rfl rfl ?_
  case s4 =>
    refine subMesh a4 fun i c h1 h2 => ?_
    have hi : i = 0 ∨ i = 1 ∨ i = 2 ∨ i = 3 := by omega
    have hc : c = 0 ∨ c = 1 ∨ c = 2 := by omega
    rcases hi with rfl | rfl | rfl | rfl <;> rcases hc with rfl | rfl | rfl <;> first | rfl | exact b4 _ _ (by decide) (by decide)
  conv => whnf
  rfl
end Go.Proofs.YtkhbmendaapojaaGreatDoor
/- MeshTetra: four points, any coordinates. -/
namespace Go.Proofs.YtkhbmendaapojaaGreatDoor
open Go Go.Vx Go.Num
set_option maxRecDepth 100000
attribute [local irreducible] CallV LoopV CodeV
set_option maxHeartbeats 4000000 in
theorem mt_walk (n0 n1 n2 n3 n4 n5 n6 n7 n8 n9 n10 n11 : Int) :
    Pure Tryz.prog 6 [.agg [.int .i32 n0, .int .i32 n1, .int .i32 n2, .int .i32 n3, .int .i32 n4, .int .i32 n5, .int .i32 n6, .int .i32 n7, .int .i32 n8, .int .i32 n9, .int .i32 n10, .int .i32 n11]] (fun o => o = .ret (.bool true)) := by
  let P := mtP n0 n1 n2 n3 n4 n5 n6 n7 n8 n9 n10 n11
  have hN : Near P := mtP_near n0 n1 n2 n3 n4 n5 n6 n7 n8 n9 n10 n11
  have hF := te_fl hN
  refine pure_of Tryz.func6 rfl 400 ?_
  conv => whnf
  refine callF1 works_pure rfl rfl ?_
  conv => whnf
  refine loop_unroll Tryz.eok 200 6 ?_
  conv => whnf
  refine loop_unroll Tryz.eok 200 5 ?_
  conv => whnf
  refine loop_unroll Tryz.eok 200 5 ?_
  conv => whnf
  refine loop_unroll Tryz.eok 200 5 ?_
  conv => whnf
  refine loop_unroll Tryz.eok 200 5 ?_
  conv => whnf
  refine loop_unroll Tryz.eok 200 6 ?_
  conv => whnf
  refine ⟨_, _, callD (lminus_pure (P 2 0) (P 2 1) (P 2 2) (P 0 0) (P 0 1) (P 0 2)) rfl (.inl rfl), ?_⟩
  conv => whnf
  refine ⟨_, _, callD (lminus_pure (P 1 0) (P 1 1) (P 1 2) (P 0 0) (P 0 1) (P 0 2)) rfl (.inl rfl), ?_⟩
  conv => whnf
  refine ⟨_, _, callD (lcross_pure _ _ _ _ _ _) rfl (.inl rfl), ?_⟩
  conv => whnf
  refine branchI (fun h0 => ?_) (fun h0 => ?_)
  · have h0 : flatF P 0 2 1 = true := h0
    rw [if_pos h0] at hF
    conv => whnf
    refine callF1 (flawed_at hF (subMeshF ?p0 ?f0)) rfl rfl ?_
    case p0 =>
      intro i hi
      have hi : i = 0 ∨ i = 1 ∨ i = 2 ∨ i = 3 := by omega
      rcases hi with rfl | rfl | rfl | rfl <;> rfl
    case f0 =>
      intro i hi
      have hi : i = 0 ∨ i = 1 ∨ i = 2 ∨ i = 3 := by omega
      rcases hi with rfl | rfl | rfl | rfl <;> rfl
    conv => whnf
    rfl
  have h0 : flatF P 0 2 1 = false := h0
  conv => whnf
  refine ⟨_, _, callD (lminus_pure (P 1 0) (P 1 1) (P 1 2) (P 0 0) (P 0 1) (P 0 2)) rfl (.inl rfl), ?_⟩
  conv => whnf
  refine ⟨_, _, callD (lminus_pure (P 3 0) (P 3 1) (P 3 2) (P 0 0) (P 0 1) (P 0 2)) rfl (.inl rfl), ?_⟩
  conv => whnf
  refine ⟨_, _, callD (lcross_pure _ _ _ _ _ _) rfl (.inl rfl), ?_⟩
  conv => whnf
  refine branchI (fun h1 => ?_) (fun h1 => ?_)
  · have h1 : flatF P 0 1 3 = true := h1
    rw [if_neg (by rw [h0]; decide)] at hF
    rw [if_pos h1] at hF
    conv => whnf
    refine callF1 (flawed_at hF (subMeshF ?p1 ?f1)) rfl rfl ?_
    case p1 =>
      intro i hi
      have hi : i = 0 ∨ i = 1 ∨ i = 2 ∨ i = 3 := by omega
      rcases hi with rfl | rfl | rfl | rfl <;> rfl
    case f1 =>
      intro i hi
      have hi : i = 0 ∨ i = 1 ∨ i = 2 ∨ i = 3 := by omega
      rcases hi with rfl | rfl | rfl | rfl <;> rfl
    conv => whnf
    rfl
  have h1 : flatF P 0 1 3 = false := h1
  conv => whnf
  refine ⟨_, _, callD (lminus_pure (P 3 0) (P 3 1) (P 3 2) (P 0 0) (P 0 1) (P 0 2)) rfl (.inl rfl), ?_⟩
  conv => whnf
  refine ⟨_, _, callD (lminus_pure (P 2 0) (P 2 1) (P 2 2) (P 0 0) (P 0 1) (P 0 2)) rfl (.inl rfl), ?_⟩
  conv => whnf
  refine ⟨_, _, callD (lcross_pure _ _ _ _ _ _) rfl (.inl rfl), ?_⟩
  conv => whnf
  refine branchI (fun h2 => ?_) (fun h2 => ?_)
  · have h2 : flatF P 0 3 2 = true := h2
    rw [if_neg (by rw [h0]; decide)] at hF
    rw [if_neg (by rw [h1]; decide)] at hF
    rw [if_pos h2] at hF
    conv => whnf
    refine callF1 (flawed_at hF (subMeshF ?p2 ?f2)) rfl rfl ?_
    case p2 =>
      intro i hi
      have hi : i = 0 ∨ i = 1 ∨ i = 2 ∨ i = 3 := by omega
      rcases hi with rfl | rfl | rfl | rfl <;> rfl
    case f2 =>
      intro i hi
      have hi : i = 0 ∨ i = 1 ∨ i = 2 ∨ i = 3 := by omega
      rcases hi with rfl | rfl | rfl | rfl <;> rfl
    conv => whnf
    rfl
  have h2 : flatF P 0 3 2 = false := h2
  conv => whnf
  refine ⟨_, _, callD (lminus_pure (P 2 0) (P 2 1) (P 2 2) (P 1 0) (P 1 1) (P 1 2)) rfl (.inl rfl), ?_⟩
  conv => whnf
  refine ⟨_, _, callD (lminus_pure (P 3 0) (P 3 1) (P 3 2) (P 1 0) (P 1 1) (P 1 2)) rfl (.inl rfl), ?_⟩
  conv => whnf
  refine ⟨_, _, callD (lcross_pure _ _ _ _ _ _) rfl (.inl rfl), ?_⟩
  conv => whnf
  refine branchI (fun h3 => ?_) (fun h3 => ?_)
  · have h3 : flatF P 1 2 3 = true := h3
    rw [if_neg (by rw [h0]; decide)] at hF
    rw [if_neg (by rw [h1]; decide)] at hF
    rw [if_neg (by rw [h2]; decide)] at hF
    rw [if_pos h3] at hF
    conv => whnf
    refine callF1 (flawed_at hF (subMeshF ?p3 ?f3)) rfl rfl ?_
    case p3 =>
      intro i hi
      have hi : i = 0 ∨ i = 1 ∨ i = 2 ∨ i = 3 := by omega
      rcases hi with rfl | rfl | rfl | rfl <;> rfl
    case f3 =>
      intro i hi
      have hi : i = 0 ∨ i = 1 ∨ i = 2 ∨ i = 3 := by omega
      rcases hi with rfl | rfl | rfl | rfl <;> rfl
    conv => whnf
    rfl
  have h3 : flatF P 1 2 3 = false := h3
  conv => whnf
  rw [if_neg (by rw [h0]; decide)] at hF
  rw [if_neg (by rw [h1]; decide)] at hF
  rw [if_neg (by rw [h2]; decide)] at hF
  rw [if_neg (by rw [h3]; decide)] at hF
  obtain ⟨hd, hb⟩ := te_det hN
  refine callF1 (te_volP hF (subMeshF ?p4 ?f4)) rfl rfl ?_
  case p4 =>
    intro i hi
    have hi : i = 0 ∨ i = 1 ∨ i = 2 ∨ i = 3 := by omega
    rcases hi with rfl | rfl | rfl | rfl <;> rfl
  case f4 =>
    intro i hi
    have hi : i = 0 ∨ i = 1 ∨ i = 2 ∨ i = 3 := by omega
    rcases hi with rfl | rfl | rfl | rfl <;> rfl
  conv => whnf
  refine ⟨_, _, callD (lminus_pure (P 1 0) (P 1 1) (P 1 2) (P 0 0) (P 0 1) (P 0 2)) rfl (.inl rfl), ?_⟩
  conv => whnf
  refine ⟨_, _, callD (lminus_pure (P 2 0) (P 2 1) (P 2 2) (P 0 0) (P 0 1) (P 0 2)) rfl (.inl rfl), ?_⟩
  conv => whnf
  refine callF1 (lminus_pure (P 3 0) (P 3 1) (P 3 2) (P 0 0) (P 0 1) (P 0 2)) rfl rfl ?_
  conv => whnf
  refine callF1 (det_pure _ _ _ _ _ _ _ _ _) rfl rfl ?_
  conv => whnf
  refine callF1 (flawed_at hF (subMeshF ?p5 ?f5)) rfl rfl ?_
  case p5 =>
    intro i hi
    have hi : i = 0 ∨ i = 1 ∨ i = 2 ∨ i = 3 := by omega
    rcases hi with rfl | rfl | rfl | rfl <;> rfl
  case f5 =>
    intro i hi
    have hi : i = 0 ∨ i = 1 ∨ i = 2 ∨ i = 3 := by omega
    rcases hi with rfl | rfl | rfl | rfl <;> rfl
  conv => whnf
  have hb2 : -9223372036854775808 ≤ volZ P teF 4 ∧ volZ P teF 4 ≤ 9223372036854775807 := by omega
  rw [← hd] at hb2
  refine callF1 (itoa_pure _ hb2) rfl rfl ?_
  conv => whnf
  refine retB ?_
  have he : ∀ z, z = volZ P teF 4 → (decZ (volZ P teF 4) == decZ z) = true := by rintro z rfl; simp
  exact he _ hd
end Go.Proofs.YtkhbmendaapojaaGreatDoor
/- From the data that arguments read as to abstract values. -/
namespace Go.Vx
open Go Go.RowKit

/-- The slices among some cells lie in rows of cells. -/
def SlOk (w : World) (cs : List Value) : Prop := ∀ a l c, Value.slice (some a) l c ∈ cs → a.spot = none ∧ ∃ arr el fz, w.heap[a.block]? = some (.cells arr el fz)
/-- What one cell is: a plain value; a slice of rows of plain values. -/
inductive Lf where
  | sh (s : Sh)
  | sl (e : List Sh)
def shsOf : List Lf → Option (List Sh)
  | [] => some []
  | .sh s :: l => match shsOf l with
    | some r => some (s :: r)
    | none => none
  | .sl _ :: _ => none
def lfFs (F : Nat → Option (List Lf)) (T : Tab) (total : Nat) : Nat → List (Nat × Nat) → Option (List Lf)
  | off, [] => if off = total then some [] else none
  | off, (o, t) :: fs => if o = off then match F t, lfFs F T total (off + (T t).size) fs with
    | some a, some b => some (a ++ b)
    | _, _ => none
    else none
/-- A type's cells. -/
def lfT (T : Tab) : Bool → Nat → Nat → Option (List Lf)
  | _, 0, _ => none
  | top, n + 1, t => match (T t).ty with
    | .int k => some [.sh (.int k)]
    | .bool => some [.sh .bool]
    | .str => some [.sh .str]
    | .slice e => match top, lfT T false n e with
      | true, some l => match shsOf l with
        | some s => if s.length = (T e).size then some [.sl s] else none
        | none => none
      | _, _ => none
    | .struct fs => lfFs (lfT T top n) T (T t).size 0 fs
    | .array m e => match lfT T top n e with
      | some l => if (T t).size = m * (T e).size then some (List.flatten (List.replicate m l)) else none
      | none => none
    | _ => none

def FitS : List Sh → List V → Prop
  | [], [] => True
  | .int k :: ls, .int k' x :: vs => k' = k ∧ (k.min ≤ x ∧ x ≤ k.max) ∧ FitS ls vs
  | .bool :: ls, .bool _ :: vs => FitS ls vs
  | .str :: ls, .str _ :: vs => FitS ls vs
  | _, _ => False
def FitL : List Lf → List V → Prop
  | [], [] => True
  | .sh s :: ls, v :: vs => FitS [s] [v] ∧ FitL ls vs
  | .sl e :: ls, v :: vs => (∃ (len : Nat) (gi : Nat → Nat → Int) (gb : Nat → Nat → Bool) (gs : Nat → Nat → List UInt8), v = .ro e.length len (fun i => shV e (gi i) (gb i) (gs i) 0) ∧ len ≤ maxLen ∧ ∀ i, i < len → FitS e (shV e (gi i) (gb i) (gs i) 0)) ∧ FitL ls vs
  | _, _ => False
theorem FitL.append : ∀ {l m : List Lf} {us vs : List V}, FitL l us → FitL m vs → FitL (l ++ m) (us ++ vs)
  | [], _, [], _, _, h => h
  | .sh _ :: _, _, _ :: _, _, h, k => ⟨h.1, FitL.append h.2 k⟩
  | .sl _ :: _, _, _ :: _, _, h, k => ⟨h.1, FitL.append h.2 k⟩
  | [], _, _ :: _, _, h, _ => h.elim
  | .sh _ :: _, _, [], _, h, _ => h.elim
  | .sl _ :: _, _, [], _, h, _ => h.elim
theorem FitL.toS : ∀ {l : List Lf} {s : List Sh} {vs : List V}, shsOf l = some s → FitL l vs → FitS s vs
  | [], s, [], h, _ => by simp [shsOf] at h; subst h; trivial
  | [], _, _ :: _, _, k => k.elim
  | .sh a :: l, s, [], _, k => k.elim
  | .sh a :: l, s, v :: vs, h, k => by
    simp only [shsOf] at h
    split at h
    · rename_i r hr
      cases h
      obtain ⟨k1, k2⟩ := k
      have := FitL.toS hr k2
      cases a <;> cases v <;> simp only [FitS] at k1 ⊢ <;> first
        | exact this
        | exact k1.elim
        | exact ⟨k1.1, k1.2.1, this⟩
    · cases h
  | .sl _ :: _, _, _, h, _ => by simp [shsOf] at h
theorem FitS.length : ∀ {s : List Sh} {vs : List V}, FitS s vs → vs.length = s.length
  | [], [], _ => rfl
  | [], _ :: _, h => h.elim
  | .int _ :: _, [], h => h.elim
  | .bool :: _, [], h => h.elim
  | .str :: _, [], h => h.elim
  | .int _ :: s, v :: vs, h => by cases v <;> first | exact h.elim | (simp [FitS.length h.2.2])
  | .bool :: s, v :: vs, h => by cases v <;> first | exact h.elim | (simp [FitS.length (s := s) h])
  | .str :: s, v :: vs, h => by cases v <;> first | exact h.elim | (simp [FitS.length (s := s) h])
theorem FitS.row : ∀ {s : List Sh} {vs : List V}, FitS s vs → rowOk s vs = true
  | [], [], _ => rfl
  | [], _ :: _, h => h.elim
  | .int _ :: _, [], h => h.elim
  | .bool :: _, [], h => h.elim
  | .str :: _, [], h => h.elim
  | .int k :: s, v :: vs, h => by
    cases v <;> first | exact h.elim | skip
    obtain ⟨rfl, _, h2⟩ := h
    have := FitS.row h2
    simp only [rowOk, this]
    have hkk : ∀ k : IntKind, ikEq k k = true := fun k => by cases k <;> rfl
    simp only [hkk]
  | .bool :: s, v :: vs, h => by cases v <;> first | exact h.elim | (exact FitS.row (s := s) h)
  | .str :: s, v :: vs, h => by cases v <;> first | exact h.elim | (exact FitS.row (s := s) h)

section
variable {H : Type} {enc : TypeId × Value → H} {P : Program} {T : Tab} {w : World} {sp : Nat → Bool} {held : Bool}
theorem cellsOf_eq (hT : TOk P T) {t : Nat} (hk : (T t).ty.known = true) : P.cellsOf t = (T t).size := by
  obtain ⟨i, d, h1, h2, h3, _⟩ := (hT.ok hk).ex
  simp [Program.cellsOf, h1, h3]
theorem lf_known {top : Bool} {n t : Nat} {l : List Lf} (h : lfT T top n t = some l) : (T t).ty.known = true := by
  cases n with
  | zero => cases h
  | succ n => cases hy : (T t).ty <;> first | rfl | (simp [lfT, hy] at h)

theorem lf_of_trod (hT : TOk P T) : ∀ (n : Nat) (top : Bool) (t : Nat) (l : List Lf), lfT T top n t = some l → ∀ {fuel : Nat} {cs : List Value} {x : DataW H × List MemPlace},
    DataW.trod enc P w 0 sp held fuel t cs = some x → (top = true → SlOk w cs) → ∃ vs, Rels [] (fun b => w.heap[b]?) vs cs ∧ FitL l vs := by
  intro n
  induction n with
  | zero => intro top t l h; cases h
  | succ n ih =>
    intro top t l hl fuel cs x hx hs
    have hk := lf_known hl
    obtain ⟨d, hd, hdo⟩ := under hT hk
    have hsz := cellsOf_eq hT hk
    cases hy : (T t).ty <;> simp only [lfT, hy] at hl <;> rw [hy] at hdo <;> cases d <;> simp only [DescOk] at hdo <;> try (cases hl; done)
    case bool.bool =>
      cases hl
      obtain ⟨b, rfl, _⟩ := DataW.trod_bool hd hx
      exact ⟨[.bool b], .cons _ _ _ _ (.bool b) .nil, trivial, trivial⟩
    case int.int k k' =>
      subst hdo
      cases hl
      obtain ⟨m, rfl, _, hw⟩ := DataW.trod_int hd hx
      simp only [Lit.wf, Bool.and_eq_true, decide_eq_true_eq] at hw
      exact ⟨[.int _ m], .cons _ _ _ _ (.int _ m) .nil, ⟨rfl, hw, trivial⟩, trivial⟩
    case str.string =>
      cases hl
      obtain ⟨s, rfl, _⟩ := DataW.trod_string hd hx
      exact ⟨[.str s.data.toList], .cons _ _ _ _ (.str s _ rfl) .nil, trivial, trivial⟩
    case slice.slice e0 e =>
      subst hdo
      split at hl <;> try (cases hl; done)
      rename_i _ le hle
      split at hl <;> try (cases hl; done)
      rename_i s hsh
      split at hl <;> try (cases hl; done)
      rename_i hlen
      cases hl
      have hke := lf_known hle
      have hsze := cellsOf_eq hT hke
      rcases DataW.trod_slice hd hx with ⟨rfl, _⟩ | ⟨a, len, cap, elems, rest, m, _, rfl, _, _, hlc, hcm, hel, hget, _, _⟩
      · exact ⟨[.ro s.length 0 (fun _ => shV s (fun _ => 0) (fun _ => false) (fun _ => []) 0)], .cons _ _ _ _ (.roNil _ _) .nil, ⟨0, fun _ _ => 0, fun _ _ => false, fun _ _ => [], rfl, Nat.zero_le _, fun i hi => by omega⟩, trivial⟩
      · obtain ⟨hspot, arr, el, fz, hheap⟩ := hs rfl a len cap (by simp)
        obtain ⟨b, off, spot⟩ := a
        simp only at hspot hheap
        subst hspot
        have each : ∀ i, i < len → ∃ vs, Rels [] (fun b => w.heap[b]?) vs ((arr.toList.drop (off + i * (T e).size)).take (T e).size) ∧ FitS s vs := by
          intro i hi
          have h1 := hget i hi
          rw [List.getElem?_eq_getElem (by omega), Option.bind_eq_some_iff] at h1
          obtain ⟨cs', hcs, hy'⟩ := h1
          rw [hsze] at hcs
          obtain ⟨vs, hv, hf⟩ := ih false _ le hle hy' (fun h => by cases h)
          obtain ⟨_, hl2, hc2⟩ := World.cells?_some hcs
          have : cs' = (arr.toList.drop (off + i * (T e).size)).take (T e).size := by
            apply List.ext_getElem?
            intro j
            by_cases hj : j < (T e).size
            · rw [← hc2 j hj, List.getElem?_take_of_lt hj, List.getElem?_drop]
              rw [addr_add, addr_add]
              simp [World.cell?, hheap]
            · rw [List.getElem?_eq_none (by omega), List.getElem?_eq_none (by simp; omega)]
          exact ⟨vs, this ▸ hv, FitL.toS hsh hf⟩
        have each' : ∀ i, ∃ vs, i < len → Rels [] (fun b => w.heap[b]?) vs ((arr.toList.drop (off + i * (T e).size)).take (T e).size) ∧ FitS s vs := fun i => by
          by_cases hi : i < len
          · obtain ⟨vs, h⟩ := each i hi; exact ⟨vs, fun _ => h⟩
          · exact ⟨[], fun h => absurd h hi⟩
        let f := fun i => Classical.choose (each' i)
        have hf : ∀ i, i < len → Rels [] (fun b => w.heap[b]?) (f i) ((arr.toList.drop (off + i * (T e).size)).take (T e).size) ∧ FitS s (f i) := fun i => Classical.choose_spec (each' i)
        have key : ∀ i, i < len → shV s (fun c => cInt (nthV (f i) c)) (fun c => cBool (nthV (f i) c)) (fun c => cStr (nthV (f i) c)) 0 = f i := fun i hi => by
          have := row_sh (pre := []) (FitS.row (hf i hi).2)
          simpa using this
        refine ⟨[.ro s.length len (fun i => shV s (fun c => cInt (nthV (f i) c)) (fun c => cBool (nthV (f i) c)) (fun c => cStr (nthV (f i) c)) 0)], .cons _ _ _ _ ?_ .nil, ⟨len, fun i c => cInt (nthV (f i) c), fun i c => cBool (nthV (f i) c), fun i c => cStr (nthV (f i) c), rfl, by omega, fun i hi => by rw [key i hi]; exact (hf i hi).2⟩, trivial⟩
        refine .ro _ _ _ b off cap arr el fz hheap hlc (fun i hi => by rw [shV_length]) (fun i hi => ?_)
        rw [key i hi, hlen]
        exact (hf i hi).1
    case struct.struct fs fs' =>
      obtain ⟨xs, m, _, _, hcl, hxl, hf⟩ := DataW.trod_struct hd hx
      have key : ∀ (fl : List Field) (off j : Nat) (l : List Lf), lfFs (lfT T top n) T (T t).size off (fl.map fun f => (f.offset, f.type)) = some l →
          (∀ i f, fl[i]? = some f → fs'[j + i]? = some f) → ∃ vs, Rels [] (fun b => w.heap[b]?) vs (cs.drop off) ∧ FitL l vs := by
        intro fl
        induction fl with
        | nil =>
          intro off j l h _
          simp only [List.map_nil, lfFs] at h
          split at h
          · rename_i h0; cases h
            rw [List.drop_of_length_le (by omega)]
            exact ⟨[], .nil, trivial⟩
          · cases h
        | cons f fl ihf =>
          intro off j l h hget
          simp only [List.map_cons, lfFs] at h
          split at h
          · rename_i h0
            split at h
            · rename_i a b ha hb
              cases h
              have hkf := lf_known ha
              obtain ⟨vs2, r2, f2⟩ := ihf _ (j + 1) b hb (fun i g hg => by have := hget (i + 1) g (by simpa using hg); rw [show j + 1 + i = j + (i + 1) by omega]; exact this)
              have hfj := hf j f (by have := hget 0 f (by simp); simpa using this)
              have hjl : j < xs.length := by
                have := hget 0 f (by simp)
                have := (Array.getElem?_eq_some_iff.1 this).1
                simp at this; omega
              rw [List.getElem?_eq_getElem hjl, cellsOf_eq hT hkf, h0] at hfj
              obtain ⟨vs1, r1, f1⟩ := ih top _ a ha hfj (fun ht a' l' c' hm => hs ht a' l' c' (List.mem_of_mem_drop (List.mem_of_mem_take hm)))
              refine ⟨vs1 ++ vs2, ?_, f1.append f2⟩
              have := r1.append r2
              rwa [← List.drop_drop, List.take_append_drop] at this
            · cases h
          · cases h
      rw [← hdo] at hl
      have := key fs'.toList 0 0 l hl (fun i f h => by simpa using h)
      simpa using this
    case array.array m e m' e' =>
      obtain ⟨rfl, rfl⟩ := hdo
      split at hl <;> try (cases hl; done)
      rename_i le hle
      split at hl <;> try (cases hl; done)
      rename_i hmul
      cases hl
      have hke := lf_known hle
      obtain ⟨xs, m0, _, _, hcl, hxl, hf⟩ := DataW.trod_array hd hx
      rw [cellsOf_eq hT hke] at hf
      have key : ∀ k, k ≤ m' → ∃ vs, Rels [] (fun b => w.heap[b]?) vs (cs.take (k * (T e').size)) ∧ FitL (List.flatten (List.replicate k le)) vs := by
        intro k
        induction k with
        | zero => intro _; exact ⟨[], by simp; exact .nil, trivial⟩
        | succ k ihk =>
          intro hk'
          obtain ⟨vs1, r1, f1⟩ := ihk (by omega)
          have h1 := hf k (by omega)
          rw [List.getElem?_eq_getElem (by omega)] at h1
          obtain ⟨vs2, r2, f2⟩ := ih top _ le hle h1 (fun ht a' l' c' hm => hs ht a' l' c' (List.mem_of_mem_drop (List.mem_of_mem_take hm)))
          refine ⟨vs1 ++ vs2, ?_, ?_⟩
          · rw [Nat.add_mul, Nat.one_mul, List.take_add]
            exact r1.append r2
          · rw [List.replicate_succ', List.flatten_append]
            have : List.flatten [le] = le := by simp
            rw [this]
            exact f1.append f2
      have := key m' (Nat.le_refl _)
      rwa [List.take_of_length_le (by omega)] at this
end
end Go.Vx
/- A law's contract on abstract values says what the law's row asks. -/
namespace Go.Vx
open Go Go.RowKit Go.ChangeShapes Go.WideShapes

section
variable {H : Type} {enc : TypeId × Value → H} {P : Program}
/-- The row's last step where new rows may be frozen (after the guide's page of small extras). -/
theorem post_of_below {f : Func} {s : ChangeSpec} {apart fresh handsOn again : Bool} {W W' : World} {args : Array Value} {v : Value} {ds gs : List (DataW H)} {before pa pv : List MemPlace}
    (hW : DataW.Whole enc P f.params.toList s.vars apart W args.toList ds gs before)
    (hres : ∀ (b : Nat) (sp : Nat → Bool) (hd : Bool), DataW.TrodAll enc P W' b sp hd f.resultTypes.toList (v.resultList f.resultTypes.size) (s.fn H (ds ++ gs)).results [])
    (hargs : ∀ sp : Nat → Bool, (∀ p ∈ before, sp p.block = true) → DataW.TrodAll enc P W' 0 sp true f.params.toList args.toList (s.fn H (ds ++ gs)).args pa)
    (hvars : ∀ sp : Nat → Bool, (∀ p ∈ before, sp p.block = true) → DataW.TrodVars enc P W' sp s.vars (s.fn H (ds ++ gs)).vars pv)
    (hps : before = pa ++ pv) (hb : Below W.heap.size W W')
    (hok : ∀ (j : Nat) (t : TypeId) (r : Value), f.resultTypes[j]? = some t → (v.resultList f.resultTypes.size)[j]? = some r → Value.okWide P W' .any 0 t r) :
    s.post enc P f apart fresh handsOn again W args v W' := by
  have hlt : ∀ p ∈ before, p.block < W.heap.size := fun p hp => hW.lt p hp
  have hold : ∀ p ∈ before, (fun b => decide (b < W.heap.size)) p.block = true := fun p hp => by simpa using hlt p hp
  refine ⟨ds, gs, before, [], pa, pv, hW, hres _ _ _, hargs _ hold, hvars _ hold, World.keptBut_mono (fun p hp => ⟨hp, ?_⟩) (hb.frame (· ∈ before)), fun _ => ?_⟩
  · rw [hps, List.mem_append] at hp
    exact Or.inr hp
  · obtain ⟨_, _, _, _, _, hz, hn⟩ := hW
    refine ⟨hok, _, _, ([] ++ pa) ++ pv, ⟨[] ++ pa, pv, trodAll_append (hargs _ (fun _ _ => rfl)) (hres _ _ _), hvars _ (fun _ _ => rfl), rfl, ?_, ?_⟩, ?_⟩
    · intro b off hp
      have hin : MemPlace.cell b off ∈ before := by rw [hps]; simpa using hp
      rw [hb.frozen (hlt _ hin)]
      exact hz b off hin
    · intro ha
      have := hn ha
      rw [hps] at this
      simpa using this
    · intro p hp _
      rw [hps]
      simpa using hp

theorem slOk_row {w : World} {base : Nat} {t : TypeId} {cs : Array Value} (h : Row.okWide P w .any base t cs) : SlOk w cs.toList := by
  obtain ⟨ts, _, _, h3⟩ := h
  intro a l c hm
  obtain ⟨i, hi⟩ := List.getElem?_of_mem hm
  obtain ⟨u, _, hu⟩ := h3 i _ (by simpa using hi)
  unfold Cell.okWide at hu
  have key : Cell.ok P w .any base u (.slice (some a) l c) := by
    split at hu <;> first | (rename_i h1; cases h1; done) | exact hu
  unfold Cell.ok at key
  split at key <;> first
    | exact key.elim
    | (rename_i heq; cases heq; done)
    | (rename_i heq
       cases heq
       obtain ⟨_, _, _, hs, row, cells, hsh, _⟩ := key
       refine ⟨hs, ?_⟩
       unfold World.shape? at hsh
       split at hsh
       · rename_i c' el fz hh; exact ⟨_, _, _, hh⟩
       · cases hsh)
theorem slOk_one {w : World} {base : Nat} {t : TypeId} {v : Value} (h : Cell.okWide P w .any base t v) : SlOk w [v] := by
  intro a l c hm
  obtain rfl := List.mem_singleton.1 hm
  unfold Cell.okWide at h
  have key : Cell.ok P w .any base t (.slice (some a) l c) := by
    split at h <;> first | (rename_i h1; cases h1; done) | exact h
  unfold Cell.ok at key
  split at key <;> first
    | exact key.elim
    | (rename_i heq; cases heq; done)
    | (rename_i heq
       cases heq
       obtain ⟨_, _, _, hs, row, cells, hsh, _⟩ := key
       refine ⟨hs, ?_⟩
       unfold World.shape? at hsh
       split at hsh
       · rename_i c' el fz hh; exact ⟨_, _, _, hh⟩
       · cases hsh)

/-- An argument as an abstract value. -/
def FitV (T : Tab) (t : Nat) (v : V) : Prop := ∃ l vs, lfT T true 9 t = some l ∧ FitL l vs ∧ match (T t).ty.agg with
  | true => v = .agg vs
  | false => vs = [v]
def FitAll (T : Tab) : List Nat → List V → Prop
  | [], [] => True
  | t :: ts, v :: vs => FitV T t v ∧ FitAll T ts vs
  | _, _ => False

theorem fitAll_of_trod {T : Tab} (hT : TOk P T) {W : World} {base : Nat} : ∀ {ts : List Nat} {vs : List Value} {ds : List (DataW H)} {p : List MemPlace},
    (∀ t ∈ ts, (lfT T true 9 t).isSome = true) → (∀ (j : Nat) t v, ts[j]? = some t → vs[j]? = some v → Value.okWide P W .any base t v) →
    DataW.TrodAll enc P W 0 (fun _ => true) true ts vs ds p → ∃ Vs, Rels [] (fun b => W.heap[b]?) Vs vs ∧ FitAll T ts Vs
  | [], vs, ds, p, _, _, h => by
    obtain ⟨rfl, rfl, rfl⟩ := trodAll_nil h
    exact ⟨[], .nil, trivial⟩
  | t :: ts, vs, ds, p, hl, hv, h => by
    obtain ⟨v, vs1, d, ds1, a, b, rfl, rfl, rfl, h1, h2⟩ := trodAll_cons h
    obtain ⟨Vs, r1, f1⟩ := fitAll_of_trod hT (fun t ht => hl t (List.mem_cons_of_mem _ ht)) (fun j u x hj hx => hv (j + 1) u x (by simpa using hj) (by simpa using hx)) h2
    obtain ⟨l, hle⟩ := Option.isSome_iff_exists.1 (hl t (List.mem_cons_self))
    have hk := lf_known hle
    obtain ⟨dd, hd, hdo⟩ := under hT hk
    have hok := hv 0 t v (by simp) (by simp)
    obtain ⟨fuel, h1⟩ := h1
    unfold Value.okWide at hok
    cases hag : (T t).ty.agg with
    | true =>
      have hcs : ∃ cs, v = .agg cs ∧ Row.okWide P W .any base t cs := by
        cases hy : (T t).ty <;> rw [hy] at hag <;> simp [Ty.agg] at hag <;> rw [hy] at hdo <;> cases dd <;> simp only [DescOk] at hdo <;> rw [hd] at hok <;> exact ⟨hok.choose, hok.choose_spec.1, hok.choose_spec.2.2⟩
      obtain ⟨cs, rfl, hrow⟩ := hcs
      obtain ⟨vs, hr, hf⟩ := lf_of_trod hT 9 true t l hle h1 (fun _ => slOk_row hrow)
      exact ⟨.agg vs :: Vs, .cons _ _ _ _ (.agg _ _ hr) r1, ⟨l, vs, hle, hf, by rw [hag]⟩, f1⟩
    | false =>
      have hcell : Cell.okWide P W .any base t v := by
        cases hy : (T t).ty <;> rw [hy] at hag <;> simp [Ty.agg] at hag <;> rw [hy] at hdo <;> cases dd <;> simp only [DescOk] at hdo <;> rw [hd] at hok <;> exact hok
      have hone : v.cells = #[v] := by
        cases v with
        | agg cs =>
          unfold Cell.okWide at hcell
          split at hcell <;> try (rename_i h1; cases h1; done)
          unfold Cell.ok at hcell
          split at hcell <;> first | exact hcell.elim | (rename_i h1; cases h1; done)
        | _ => rfl
      rw [hone] at h1
      obtain ⟨vs, hr, hf⟩ := lf_of_trod hT 9 true t l hle h1 (fun _ => slOk_one hcell)
      cases hr with | cons u us x xs hu hus =>
      cases hus
      exact ⟨u :: Vs, .cons _ _ _ _ hu r1, ⟨l, [u], hle, hf, by rw [hag]⟩, f1⟩

/-- THE CONTRACT THAT A LAW's ROW ASKS. -/
theorem law_calls {T : Tab} (hT : TOk P T) (hlo : laidOutB P = true) {k : FuncId} {fn : Func} {s : ChangeSpec} {b : TypeId} {W : World} {base : Nat} {args : Array Value} {ds gs : List (DataW H)} {before : List MemPlace}
    (hvars : s.vars = []) (hspec : ∀ ds : List (DataW H), ds.length = fn.params.size → s.fn H ds = { results := [.lit (.bool true)], args := ds })
    (hres : fn.resultTypes = #[b]) (hb : P.underlying b = some .bool)
    (hread : ∀ t ∈ fn.params.toList, P.readableRec t = true ∧ t < P.types.size ∧ (lfT T true 9 t).isSome = true)
    (hval : ∀ (j : Nat) t v, fn.params[j]? = some t → args[j]? = some v → Value.okWide P W .any base t v)
    (hW : DataW.Whole enc P fn.params.toList s.vars false W args.toList ds gs before)
    (hglob : GlobOk (fun b => W.heap[b]?))
    (hpure : ∀ Vs, FitAll T fn.params.toList Vs → Pure P k Vs (fun o => o = .ret (.bool true))) :
    Calls P k args W fun e W' => ∃ v, e = .returned v ∧ s.post enc P fn false true false false W args v W' := by
  have hW' := hW
  obtain ⟨p, q, hA, hV, rfl, hfz, hnd⟩ := hW
  obtain ⟨Vs, hr, hf⟩ := fitAll_of_trod hT (fun t ht => (hread t ht).2.2) (fun j t v h1 h2 => hval j t v (by simpa using h1) (by simpa using h2)) hA
  rw [hvars] at hV
  have hgs : gs = [] ∧ q = [] := by
    cases gs with
    | nil => exact ⟨rfl, hV⟩
    | cons g r => exact absurd hV (by intro h; cases h)
  obtain ⟨rfl, rfl⟩ := hgs
  have hlt : ∀ x ∈ p ++ [], x.block < W.heap.size := fun x hx => hW'.lt x hx
  have hdl : ∀ {ts : List Nat} {vs : List Value} {ds : List (DataW H)} {p : List MemPlace}, DataW.TrodAll enc P W 0 (fun _ => true) true ts vs ds p → ds.length = ts.length := by
    intro ts
    induction ts with
    | nil => intro vs ds p h; obtain ⟨rfl, rfl, rfl⟩ := trodAll_nil h; rfl
    | cons t ts ih => intro vs ds p h; obtain ⟨v, vs1, d, ds1, a, b, rfl, rfl, rfl, h1, h2⟩ := trodAll_cons h; simp [ih h2]
  have hsp := hspec ds (by rw [hdl hA]; simp)
  refine (hpure Vs hf (fun b => W.heap[b]?) W args hglob (fun _ _ h => h) hr).mono ?_
  rintro e W' ⟨o, I', rfl, hO, _, _, _, hbel⟩
  have he : e = .returned (.bool true) := by
    cases e <;> first | exact hO.elim | skip
    cases hO; rfl
  subst he
  refine ⟨_, rfl, post_of_below (pa := p) (pv := []) hW' ?_ ?_ ?_ rfl hbel ?_⟩
  · intro b' sp hd
    rw [List.append_nil, hsp, hres]
    exact trodAll_mk1 (shut_bool hb true)
  · intro sp hsp'
    rw [List.append_nil, hsp]
    have key : ∀ {ts : List Nat} {vs : List Value} {ds : List (DataW H)} {p : List MemPlace}, (∀ t ∈ ts, P.readableRec t = true ∧ t < P.types.size) → (∀ x ∈ p, x.block < W.heap.size ∧ sp x.block = true) →
        DataW.TrodAll enc P W 0 (fun _ => true) true ts vs ds p → DataW.TrodAll enc P W' 0 sp true ts vs ds p := by
      intro ts
      induction ts with
      | nil => intro vs ds p _ _ h; obtain ⟨rfl, rfl, rfl⟩ := trodAll_nil h; exact rfl
      | cons t ts ih =>
        intro vs ds p h1 h2 h
        obtain ⟨v, vs1, d, ds1, a, b, rfl, rfl, rfl, h3, h4⟩ := trodAll_cons h
        refine ⟨a, b, ?_, ih (fun t ht => h1 t (List.mem_cons_of_mem _ ht)) (fun x hx => h2 x (by simp [hx])) h4, rfl⟩
        exact WideElems.Trod_stays hlo (h1 t (List.mem_cons_self)).1 (h1 t (List.mem_cons_self)).2 h3 (fun x hx => hbel.same (h2 x (by simp [hx])).1) (fun x hx => (h2 x (by simp [hx])).2)
    exact key (fun t ht => ⟨(hread t ht).1, (hread t ht).2.1⟩) (fun x hx => ⟨hlt x (by simp [hx]), hsp' x (by simp [hx])⟩) hA
  · intro sp _
    rw [hvars, List.append_nil, hsp]
    exact rfl
  · rw [hres]
    intro j t r h1 h2
    cases j with
    | zero =>
      simp [Value.resultList] at h1 h2
      subst h1; subst h2
      simp [Value.okWide, hb, Cell.okWide, Cell.ok]
    | succ j => simp at h1

/-- A table of integers that a listed variable holds. -/
theorem ints_of_trod {w : World} {base : Nat} {sp : Nat → Bool} {held : Bool} {t e : TypeId} {n : Nat} {k : IntKind} (ht : P.underlying t = some (.array n e)) (he : P.underlying e = some (.int k)) (hc : P.cellsOf e = 1) (hct : P.cellsOf t = n)
    {fuel : Nat} {cs : List Value} {zs : List Int} {p : List MemPlace} (h : DataW.trod enc P w base sp held fuel t cs = some (.agg (zs.map fun n => .lit (.int k n)), p)) : cs = zs.map (.int k) := by
  obtain ⟨xs, m, _, hx, hcl, hxl, hf⟩ := DataW.trod_array ht h
  rw [hc] at hf
  simp only [Prod.mk.injEq, DataW.agg.injEq] at hx
  have hzl : zs.length = xs.length := by have := congrArg List.length hx.1; simpa using this
  apply List.ext_getElem?
  intro i
  by_cases hi : i < n
  · have h1 := hf i hi
    rw [List.getElem?_eq_getElem (by omega)] at h1
    obtain ⟨v, h2, h3, _⟩ := DataW.trod_int he h1
    have h4 := congrArg (fun l => l[i]?) hx.1
    simp only [List.getElem?_map, List.getElem?_eq_getElem (show i < xs.length by omega), Option.map_some, h3] at h4
    rw [List.getElem?_eq_getElem (by omega)] at h4
    simp at h4
    have h5 : cs[i]? = some (.int k v) := by
      have := congrArg (fun l => l[0]?) h2
      simp only [Nat.mul_one, List.getElem?_take, List.getElem?_drop] at this
      simpa using this
    rw [h5, List.getElem?_map, List.getElem?_eq_getElem (by omega), h4]; rfl
  · rw [List.getElem?_eq_none (by omega), List.getElem?_eq_none (by simp; omega)]
end
end Go.Vx
/- MeshTetra: from what fits its parameters. -/
namespace Go.Proofs.YtkhbmendaapojaaGreatDoor
open Go Go.Vx Go.Num
set_option maxRecDepth 100000
theorem fitL_ints {k : IntKind} : ∀ {n : Nat} {vs : List V}, FitL (List.replicate n (.sh (.int k))) vs → ∃ ns : List Int, ns.length = n ∧ vs = ns.map (V.int k)
  | 0, [], _ => ⟨[], rfl, rfl⟩
  | 0, _ :: _, h => h.elim
  | n + 1, [], h => h.elim
  | n + 1, v :: vs, h => by
    obtain ⟨ns, h1, h2⟩ := fitL_ints (n := n) (show FitL _ vs from h.2)
    have hs : FitS [.int k] [v] := h.1
    cases v with
    | int k' x =>
      obtain ⟨rfl, _, _⟩ : k' = k ∧ (k.min ≤ x ∧ x ≤ k.max) ∧ FitS [] [] := hs
      exact ⟨x :: ns, by simp [h1], by simp [h2]⟩
    | _ => exact hs.elim
theorem meshTetra_pure (Vs : List V) (h : FitAll Tryz.tab Tryz.f6.params.toList Vs) : Pure Tryz.prog 6 Vs (fun o => o = .ret (.bool true)) := by
  have h : FitAll Tryz.tab [59] Vs := h
  match Vs, h with
  | [v], ⟨⟨l, vs, hl, hf, hv⟩, _⟩ =>
    have e : lfT Tryz.tab true 9 59 = some (List.replicate 12 (.sh (.int .i32))) := by kernel_rfl
    rw [e] at hl
    cases hl
    obtain ⟨ns, h1, h2⟩ := fitL_ints hf
    have ha : (Tryz.tab 59).ty.agg = true := by kernel_rfl
    rw [ha] at hv
    obtain rfl : v = .agg vs := hv
    match ns, h1 with
    | [n0, n1, n2, n3, n4, n5, n6, n7, n8, n9, n10, n11], _ =>
      subst h2
      exact mt_walk n0 n1 n2 n3 n4 n5 n6 n7 n8 n9 n10 n11
end Go.Proofs.YtkhbmendaapojaaGreatDoor
/- What this seat's laws share: the variables that are listed, a start that fits. Printed by a program. -/
namespace Go.Proofs.YtkhbmendaapojaaGreatDoor
open Go Go.Vx Go.ChangeShapes Go.WideShapes Go.RowKit
set_option maxRecDepth 100000
theorem own0 : ownKnob Tryz.prog.godebug = none := by kernel_rfl
theorem laidOut0 : laidOutB Tryz.prog = true := by kernel_rfl
theorem plain0 {W : World} (h : laidMetH Tryz.prog [("math/bits.deBruijn32tab", Rows.laid_math_bits_deBruijn32tab), ("math/bits.deBruijn64tab", Rows.laid_math_bits_deBruijn64tab), ("internal/strconv.uint64pow10", Rows.laid_internal_strconv_uint64pow10), ("strconv.ErrRange", Rows.laid_strconv_ErrRange), ("strconv.ErrSyntax", Rows.laid_strconv_ErrSyntax)] W) : laidMet Tryz.prog [("math/bits.deBruijn32tab", Rows.laid_math_bits_deBruijn32tab), ("math/bits.deBruijn64tab", Rows.laid_math_bits_deBruijn64tab), ("internal/strconv.uint64pow10", Rows.laid_internal_strconv_uint64pow10), ("strconv.ErrRange", Rows.laid_strconv_ErrRange), ("strconv.ErrSyntax", Rows.laid_strconv_ErrSyntax)] W := by
  rw [MakeChecks.laidMetH_plain _ _ _ (by kernel_rfl)] at h; exact h
theorem glob0 {W : World} (h : laidMetH Tryz.prog [("math/bits.deBruijn32tab", Rows.laid_math_bits_deBruijn32tab), ("math/bits.deBruijn64tab", Rows.laid_math_bits_deBruijn64tab), ("internal/strconv.uint64pow10", Rows.laid_internal_strconv_uint64pow10), ("strconv.ErrRange", Rows.laid_strconv_ErrRange), ("strconv.ErrSyntax", Rows.laid_strconv_ErrSyntax)] W) : GlobOk (fun b => W.heap[b]?) := by
  obtain ⟨ps, ⟨g0, t0, cs0, f0, p0, q0, hg0, ht0, hv0, hd0, ⟨g1, t1, cs1, f1, p1, q1, hg1, ht1, hv1, hd1, ⟨g2, t2, cs2, f2, p2, q2, hg2, ht2, hv2, hd2, ⟨g3, t3, cs3, f3, p3, q3, hg3, ht3, hv3, hd3, ⟨g4, t4, cs4, f4, p4, q4, hg4, ht4, hv4, hd4, _, _⟩, _⟩, _⟩, _⟩, _⟩, _, _⟩ := plain0 h
  intro p hp
  obtain rfl := List.mem_singleton.1 hp
  obtain rfl := Option.some.inj ((show Tryz.prog.globalNamed "internal/strconv.uint64pow10" = some 2 by kernel_rfl).symm.trans hg2)
  obtain rfl := Option.some.inj ((show (Tryz.prog.globals[2]?).map (·.type) = some 177 by kernel_rfl).symm.trans ht2)
  have hcs := ints_of_trod (zs := [1, 10, 100, 1000, 10000, 100000, 1000000, 10000000, 100000000, 1000000000, 10000000000, 100000000000, 1000000000000, 10000000000000, 100000000000000, 1000000000000000, 10000000000000000, 100000000000000000, 1000000000000000000, 10000000000000000000]) Tryz.underlying177 Tryz.underlying133 (by kernel_rfl) (by kernel_rfl) hd2
  simp only [World.var?, hg2, Option.bind_some] at hv2
  split at hv2
  · rename_i cs el fz hh
    cases hv2
    refine ⟨el, fz, ?_⟩
    show W.heap[2]? = _
    rw [hh]
    congr 2
    apply Array.ext'
    rw [hcs]; rfl
  · cases hv2
theorem door0 (os : Os) (args : Array Value) : laidMetH Tryz.prog [("math/bits.deBruijn32tab", Rows.laid_math_bits_deBruijn32tab), ("math/bits.deBruijn64tab", Rows.laid_math_bits_deBruijn64tab), ("internal/strconv.uint64pow10", Rows.laid_internal_strconv_uint64pow10), ("strconv.ErrRange", Rows.laid_strconv_ErrRange), ("strconv.ErrSyntax", Rows.laid_strconv_ErrSyntax)] ((World.doorLaid Tryz.prog 400 os).forCall (fun _ _ => 0) ⟨#[], args, []⟩).memory :=
  laidMetH_of_parts3 (fuel := 8) (laidMet_of_run' 8 (by kernel_rfl) (by kernel_rfl)) (by kernel_rfl) (by kernel_rfl)
theorem shaped0 (os : Os) (args : Array Value) : ((World.doorLaid Tryz.prog 400 os).forCall (fun _ _ => 0) ⟨#[], args, []⟩).Shaped Tryz.prog := World.shaped_of_RefB (by kernel_rfl) (by kernel_rfl)
end Go.Proofs.YtkhbmendaapojaaGreatDoor
/- MeshTetra: the law of the chapter holds of every input: its row, and its card. -/
namespace Go.Proofs.YtkhbmendaapojaaGreatDoor
open Go Go.Vx Go.ChangeShapes Go.WideShapes Go.RowKit
set_option maxRecDepth 100000
theorem meshTetra_lifted (os : Os) (started : os.Started) (H : Type) (enc : TypeId × Value → H) :
    ReturnsInHanded {} Tryz.checked os 6 .any (fun w args => (Rows.meshTetraSpec.pre enc Tryz.prog Tryz.f6 [] false w args ∧ laidMetH Tryz.prog Rows.meshTetraRow.laid w) ∧ sizedMet enc Tryz.prog Tryz.f6 (OpenSpec.ofChange Rows.meshTetraSpec) false w args)
      (Rows.meshTetraSpec.post enc Tryz.prog Tryz.f6 false true false false) := by
  refine returnsInHanded_of_change_and (C := Tryz.checked) (X := fun w _ => laidMetH Tryz.prog Rows.meshTetraRow.laid w) (fun _ _ _ hh h => h.of_heap hh) own0 started (by kernel_rfl) Tryz.func6
    (ChangeSpec.witness_shaped (enc := enc) (C := Tryz.checked) (os := os) (X := fun w _ => laidMetH Tryz.prog Rows.meshTetraRow.laid w) false (World.doorLaid Tryz.prog 400 os) #[.agg #[.int .i32 0, .int .i32 0, .int .i32 0, .int .i32 0, .int .i32 0, .int .i32 0, .int .i32 0, .int .i32 0, .int .i32 0, .int .i32 0, .int .i32 0, .int .i32 0]] 12 rfl (shaped0 os _) (by kernel_rfl) (by kernel_rfl) (by kernel_rfl) (door0 os _)) ?_
  intro W base args ds gs before hval hW _ _ hL _
  refine law_calls (T := Tryz.tab) (b := 4) Tryz.tok laidOut0 rfl ?_ rfl Tryz.underlying4 ?_ hval hW (glob0 hL) ?_
  · intro ds hds
    have hp : Tryz.f6.params.size = 1 := rfl
    rw [hp] at hds
    match ds, hds with
    | [_], _ => rfl
  · intro t ht
    have ht : t ∈ ([59] : List Nat) := ht
    simp only [List.mem_cons, List.not_mem_nil, or_false] at ht
    subst ht
    exact ⟨by kernel_rfl, of_decide_eq_true (by kernel_rfl), by kernel_rfl⟩
  · exact fun Vs h => meshTetra_pure Vs h
theorem meshTetra_holds : Rows.MeshTetraSaid :=
  OpenClaim.holds_of_wide 6 Tryz.f6 rfl rfl rfl rfl rfl rfl rfl ⟨rfl, rfl, rfl, rfl, rfl⟩ rfl rfl rfl rfl rfl (by kernel_rfl) Tryz.func6 (by kernel_rfl)
    (of_decide_eq_true (by kernel_rfl)) (by unfold Func.isWrapper; rw [if_neg (of_decide_eq_false (by kernel_rfl))]; exact ⟨rfl, rfl⟩)
    (fun os started H enc _ => meshTetra_lifted os started H enc)
theorem meshTetra_card : Rows.MeshTetraCardSaid :=
  Claim7.holds_tied_plain_at .later [] [.data, .data, .data, .sentinel, .sentinel] true (true, "41064d927b8550ee3a774af7aafa0f1c5e0adbd75066ec920d62864df12f8d35") true
    meshTetra_holds (fun _ h => by cases h) (by kernel_rfl) (fun _ h => by cases h) meshTetra_row_tie rfl ⟨rfl, rfl⟩ (by kernel_rfl) rfl
    (fun f fn hf hfn => by
      obtain rfl : f = 6 := Option.some.inj ((show Tryz.prog.funcNamed "verdigris/verdigrislaw35.MeshTetra" = some 6 by kernel_rfl).symm.trans hf) |>.symm
      obtain rfl : fn = Tryz.f6 := (Option.some.inj (Tryz.func6.symm.trans hfn)).symm
      exact ⟨by kernel_rfl, fun j t ht => by
        have hm : t ∈ ([59] : List Nat) := by simpa using Array.mem_of_getElem? ht
        have hall : (([59] : List Nat).all fun u => !Tryz.prog.wantsStandIn u) = true := by kernel_rfl
        exact (show Tryz.prog.wantsStandIn t = false by simpa using List.all_eq_true.1 hall t hm)⟩)
    (by kernel_rfl)
end Go.Proofs.YtkhbmendaapojaaGreatDoor
