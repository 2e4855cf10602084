/- The reference: Moved. MeshChanges: Turned and Moved answer as the reference does, and the mesh stays. (Printed by mcgen.py.) MeshChanges: from what fits its parameters. MeshChanges: the law of the chapter holds of every input: its row, and its card. -/
import Derived.Test.YtkhbmendaapojaaGreatDoorPkBa24
import Derived.Test.YtkhbmendaapojaaGreatDoorPkBa16
import Derived.Test.YtkhbmendaapojaaGreatDoorPkBa25
set_option linter.unusedSimpArgs false
set_option linter.unusedVariables false
/- The reference: Moved. -/
namespace Go.Proofs.YtkhbmendaapojaaGreatDoor
open Go Go.Vx
set_option maxRecDepth 100000
attribute [local irreducible] CallV LoopV CodeV
theorem rmoved_pure (np : Nat) (P : Nat → Nat → Int) (nf : Nat) (F : Nat → Nat → Int) (v0 v1 v2 : Int) :
    Pure Tryz.prog 22 [meshV np P nf F, pt v0 v1 v2] (fun o => o = .ret (movedS np P nf F v0 v1 v2)) := by
  refine Pure.retSub (pure_of Tryz.func22 rfl 300 ?_)
  conv => whnf
  refine callF1 (rcheck_pure np P nf F) rfl rfl ?_
  by_cases hf : 0 < (flawS np P nf F).1
  · rw [checkS, if_pos hf]
    conv => whnf
    refine RetSub.eq ?_
    rw [movedS, if_pos hf]
    rfl
  · rw [checkS, if_neg hf]
    obtain ⟨h1, h2⟩ := flaw_ok hf
    obtain ⟨⟨np1, np2⟩, ⟨nf1, nf2⟩, hfar, -⟩ := msingle_ok h1
    conv => whnf
    refine ⟨fun i _ => rfl, ?_⟩
    conv => whnf
    refine branchT (show fits 24 (0 + nf) = true by unfold fits; simp; omega) ?_
    conv => whnf
    refine loop_inv Tryz.eok 280 (fun s : Nat × (Nat → Nat → Int) × (Nat → Nat → Bool) × (Nat → Nat → List UInt8) => s.1 ≤ np ∧ (0 < s.1 → farV3 v0 v1 v2 = false) ∧ (∀ i, i < s.1 → farM P v0 v1 v2 i = false) ∧ ∀ i, i < s.1 → s.2.1 i 0 = movP P v0 v1 v2 i 0 ∧ s.2.1 i 1 = movP P v0 v1 v2 i 1 ∧ s.2.1 i 2 = movP P v0 v1 v2 i 2) (fun s => np - s.1)
      (fun s => slots [(2, .ptr 0 0 0), (3, .ptr 1 0 0), (4, .ptr 2 0 0), (7, .ptr 5 0 0), (8, i64 s.1)] 0 68)
      (fun s => [.fix 24 [rows3 np P, rows3 nf F], .fix 41 [i64 v0, i64 v1, i64 v2], .fix 24 [.nilSl, .nilSl], .dead, .arr 41 [.int .i64, .int .i64, .int .i64] (clI nf F) (clB nf F) (clS nf F), .fix 24 [.sl 6 3 0 s.1 s.1, .sl 4 3 0 nf nf], .arr 41 [.int .i64, .int .i64, .int .i64] s.2.1 s.2.2.1 s.2.2.2])
      (0, fun _ _ => 0, fun _ _ => false, fun _ _ => []) [1000000] ⟨Nat.zero_le _, fun h => absurd h (Nat.lt_irrefl 0), fun i h => absurd h (Nat.not_lt_zero i), fun i h => absurd h (Nat.not_lt_zero i)⟩ ?_ rfl ?_
    · repeat' constructor
      · exact Nat.zero_add nf
      · exact Nat.le_of_eq (Nat.zero_add nf).symm
    rintro ⟨k, gi, gb, gs⟩ ⟨hk, hnv, hno, hg⟩
    have hk : k ≤ np := hk
    have hnv : 0 < k → farV3 v0 v1 v2 = false := hnv
    have hno : ∀ i, i < k → farM P v0 v1 v2 i = false := hno
    have hg : ∀ i, i < k → gi i 0 = movP P v0 v1 v2 i 0 ∧ gi i 1 = movP P v0 v1 v2 i 1 ∧ gi i 2 = movP P v0 v1 v2 i 2 := hg
    conv => whnf
    refine branchI (fun h3 => ?_) (fun h3 => ?_)
    · have h3 : decide ((k : Int) < (np : Int)) = true := h3
      have h3' := of_decide_eq_true h3
      have hin : (decide (0 ≤ (k : Int)) && decide ((k : Int) < (np : Int))) = true := guardI ⟨by omega, by omega⟩
      have far : farV3 v0 v1 v2 = true → V.tup [noMesh, i64 6] = movedS np P nf F v0 v1 v2 := fun h => by rw [movedS, if_neg hf, if_pos h]
      conv => whnf
      refine branchT hin ?_
      conv => whnf
      refine loop_unroll Tryz.eok 260 5 ?_
      conv => whnf
      refine branchI (fun a0 => ?_) (fun a0 => ?_)
      · conv => whnf
        rw [← far (by have a0 : decide (v0 < -400000) = true := a0; simp [farV3, farV, a0])]
        exact RetSub.eq rfl
      conv => whnf
      refine branchI (fun b0 => ?_) (fun b0 => ?_)
      · conv => whnf
        rw [← far (by have b0 : decide (400000 < v0) = true := b0; simp [farV3, farV, b0])]
        exact RetSub.eq rfl
      have e0 : farV v0 = false := by
        have a0 : decide (v0 < -400000) = false := a0
        have b0 : decide (400000 < v0) = false := b0
        simp only [farV, a0, b0, Bool.or_self]
      conv => whnf
      refine branchI (fun a1 => ?_) (fun a1 => ?_)
      · conv => whnf
        rw [← far (by have a1 : decide (v1 < -400000) = true := a1; simp [farV3, farV, a1])]
        exact RetSub.eq rfl
      conv => whnf
      refine branchI (fun b1 => ?_) (fun b1 => ?_)
      · conv => whnf
        rw [← far (by have b1 : decide (400000 < v1) = true := b1; simp [farV3, farV, b1])]
        exact RetSub.eq rfl
      have e1 : farV v1 = false := by
        have a1 : decide (v1 < -400000) = false := a1
        have b1 : decide (400000 < v1) = false := b1
        simp only [farV, a1, b1, Bool.or_self]
      conv => whnf
      refine branchI (fun a2 => ?_) (fun a2 => ?_)
      · conv => whnf
        rw [← far (by have a2 : decide (v2 < -400000) = true := a2; simp [farV3, farV, a2])]
        exact RetSub.eq rfl
      conv => whnf
      refine branchI (fun b2 => ?_) (fun b2 => ?_)
      · conv => whnf
        rw [← far (by have b2 : decide (400000 < v2) = true := b2; simp [farV3, farV, b2])]
        exact RetSub.eq rfl
      have e2 : farV v2 = false := by
        have a2 : decide (v2 < -400000) = false := a2
        have b2 : decide (400000 < v2) = false := b2
        simp only [farV, a2, b2, Bool.or_self]
      conv => whnf
      obtain ⟨f0, f1, f2⟩ := far3_le (hfar k (by omega))
      have n0 := farV_ok e0
      have n1 := farV_ok e1
      have n2 := farV_ok e2
      have hn3 : farV3 v0 v1 v2 = false := by simp [farV3, e0, e1, e2]
      have w0 : IntKind.i64.wrap (P k 0 + v0) = P k 0 + v0 := w64_in (by omega)
      have w1 : IntKind.i64.wrap (P k 1 + v1) = P k 1 + v1 := w64_in (by omega)
      have w2 : IntKind.i64.wrap (P k 2 + v2) = P k 2 + v2 := w64_in (by omega)
      refine callF1 (rfar_pure (P k 0 + v0) (P k 1 + v1) (P k 2 + v2)) ?_ rfl ?_
      · show [pt (IntKind.i64.wrap (P k 0 + v0)) (IntKind.i64.wrap (P k 1 + v1)) (IntKind.i64.wrap (P k 2 + v2))] = _
        rw [w0, w1, w2]
      conv => whnf
      refine branchI (fun h7 => ?_) (fun h7 => ?_)
      · have h7 : farM P v0 v1 v2 k = true := h7
        conv => whnf
        refine RetSub.eq ?_
        rw [movedS, if_neg hf, if_neg (by rw [hn3]; simp), if_pos]
        · rfl
        · cases hx : first (farM P v0 v1 v2) 0 np with
          | some i => rfl
          | none => rw [first_none hx k (Nat.zero_le _) (by omega)] at h7; cases h7
      have h7 : farM P v0 v1 v2 k = false := h7
      conv => whnf
      refine branchT (show fits 24 (k + 1) = true by unfold fits; simp; omega) ?_
      conv => whnf
      refine ⟨rfl, ⟨k + 1, ?gi1, ?gb1, ?gs1⟩, [9], ?inv1, ?mu1, rfl, ?ls1⟩
      case ls1 =>
        repeat' constructor
        all_goals first | exact rfl | exact w64_nat (by omega) | skip
      case mu1 => show np - (k + 1) < np - k; omega
      case inv1 =>
        refine ⟨by show k + 1 ≤ np; omega, fun _ => hn3, fun i hi => ?_, push3 hg ?_ ?_ ?_⟩
        · have hi : i < k + 1 := hi
          by_cases hik : i = k
          · rw [hik]; exact h7
          · exact hno i (by omega)
        · exact w0
        · exact w1
        · exact w2
    · have h3 : decide ((k : Int) < (np : Int)) = false := h3
      have h3' := of_decide_eq_false h3
      obtain rfl : k = np := by omega
      conv => whnf
      refine RetSub.of ?_
      rw [movedS, if_neg hf, if_neg (by rw [hnv (by omega)]; simp), if_neg]
      · refine .tup (.cons (.agg (.cons ?_ (.cons ?_ .nil))) (.cons (.refl _) .nil))
        · exact SubV.ro fun i hi => by
            obtain ⟨q1, q2, q3⟩ := hg i hi
            show [i64 (gi (0 + i) 0), i64 (gi (0 + i) 1), i64 (gi (0 + i) 2)] = [i64 (movP P v0 v1 v2 i 0), i64 (movP P v0 v1 v2 i 1), i64 (movP P v0 v1 v2 i 2)]
            rw [Nat.zero_add, q1, q2, q3]
        · exact SubV.ro fun i _ => by
            show [i64 (F (0 + i) 0), i64 (F (0 + i) 1), i64 (F (0 + i) 2)] = _
            rw [Nat.zero_add]
      · intro hx
        cases hy : first (farM P v0 v1 v2) 0 k with
        | none => rw [hy] at hx; cases hx
        | some i =>
          obtain ⟨hi1, hi2⟩ := first_some hy
          rw [hno i (by omega)] at hi2; cases hi2
end Go.Proofs.YtkhbmendaapojaaGreatDoor
/- MeshChanges: Turned and Moved answer as the reference does, and the mesh stays. (Printed by mcgen.py.) -/
namespace Go.Proofs.YtkhbmendaapojaaGreatDoor
open Go Go.Vx Go.Num
set_option maxRecDepth 100000
attribute [local irreducible] CallV LoopV CodeV
theorem no_sub (m : BM) (e : Int) : SubV (.tup [noMesh, i64 e]) (.tup [BM.v ⟨0, m.P, 0, m.F⟩, i64 e]) :=
  .tup (.cons (.agg (.cons (SubV.nil 3 _) (.cons (SubV.nil 3 _) .nil))) (.refl _))
theorem ret_sub {P : Program} {f : Nat} {Vs : List V} {u v : V} (h : Pure P f Vs (fun o => o = .ret u)) (hs : SubV u v) : Pure P f Vs (fun o => o = .ret v) :=
  Pure.retSub (h.mono fun _ ho => by rw [ho]; exact RetSub.of hs)
theorem tu_both (m : BM) : ∃ (r : BM) (e : Int), BM.le 1000 r ∧ Pure Tryz.prog 18 [m.v] (fun o => o = .ret (.tup [r.v, i64 e])) ∧ Pure Tryz.prog 19 [m.v] (fun o => o = .ret (.tup [r.v, i64 e])) := by
  have h1 := turned_pure m.np m.P m.nf m.F
  have h2 := rturned_pure m.np m.P m.nf m.F
  by_cases hf : 0 < (flawS m.np m.P m.nf m.F).1
  · rw [turnedS, if_pos hf] at h1 h2
    exact ⟨_, _, ⟨Nat.zero_le _, Nat.zero_le _⟩, ret_sub h1 (no_sub m 350), ret_sub h2 (no_sub m 350)⟩
  · rw [turnedS, if_neg hf] at h1 h2
    obtain ⟨⟨-, np2⟩, ⟨-, nf2⟩, -⟩ := msingle_ok (flaw_ok hf).1
    exact ⟨⟨m.np, m.P, m.nf, turnF m.F⟩, 0, ⟨by show m.np ≤ 1000; omega, by show m.nf ≤ 1000; omega⟩, h1, h2⟩
theorem mv_both (m : BM) (v0 v1 v2 : Int) : ∃ (r : BM) (e : Int), BM.le 1000 r ∧ Pure Tryz.prog 21 [m.v, pt v0 v1 v2] (fun o => o = .ret (.tup [r.v, i64 e])) ∧ Pure Tryz.prog 22 [m.v, pt v0 v1 v2] (fun o => o = .ret (.tup [r.v, i64 e])) := by
  have h1 := moved_pure m.np m.P m.nf m.F v0 v1 v2
  have h2 := rmoved_pure m.np m.P m.nf m.F v0 v1 v2
  by_cases hf : 0 < (flawS m.np m.P m.nf m.F).1
  · rw [movedS, if_pos hf] at h1 h2
    exact ⟨_, _, ⟨Nat.zero_le _, Nat.zero_le _⟩, ret_sub h1 (no_sub m 350), ret_sub h2 (no_sub m 350)⟩
  rw [movedS, if_neg hf] at h1 h2
  by_cases hv : farV3 v0 v1 v2 = true
  · rw [if_pos hv] at h1 h2
    exact ⟨_, _, ⟨Nat.zero_le _, Nat.zero_le _⟩, ret_sub h1 (no_sub m 6), ret_sub h2 (no_sub m 6)⟩
  rw [if_neg hv] at h1 h2
  by_cases hx : (first (farM m.P v0 v1 v2) 0 m.np).isSome = true
  · rw [if_pos hx] at h1 h2
    exact ⟨_, _, ⟨Nat.zero_le _, Nat.zero_le _⟩, ret_sub h1 (no_sub m 6), ret_sub h2 (no_sub m 6)⟩
  rw [if_neg hx] at h1 h2
  obtain ⟨⟨-, np2⟩, ⟨-, nf2⟩, -⟩ := msingle_ok (flaw_ok hf).1
  exact ⟨⟨m.np, movP m.P v0 v1 v2, m.nf, m.F⟩, 0, ⟨by show m.np ≤ 1000; omega, by show m.nf ≤ 1000; omega⟩, h1, h2⟩
theorem first_never {p : Nat → Bool} : ∀ {c i : Nat}, (∀ j, p j = false) → first p i c = none
  | 0, _, _ => rfl
  | c + 1, i, h => by rw [first, h i]; exact first_never h
theorem eqRows_self (n : Nat) (A : Nat → Nat → Int) : eqRows n A n A = true := by
  unfold eqRows
  rw [first_never (fun j => by simp [diff3])]
  simp
theorem same_self {m : BM} (h : BM.le 1000 m) {U : V} (hU : SubV U m.v) : Pure Tryz.prog 20 [m.v, U] (fun o => o = .ret (.bool true)) := by
  have h1 := rsame_pure m.np m.P m.nf m.F m.np m.P m.nf m.F (by have := h.1; show m.np < _; omega) (by have := h.2; show m.nf < _; omega)
  rw [sameS, eqRows_self, eqRows_self] at h1
  exact h1.args (.cons (.refl _) (.cons hU .nil))
theorem row00 {n : Nat} {f : Nat → List V} {P : Nat → Nat → Int} (h : ∀ i, i < n → f i = [i64 (P (0 + i) 0), i64 (P (0 + i) 1), i64 (P (0 + i) 2)]) : SubV (.ro 3 (0 + n) f) (rows3 n P) := by
  rw [Nat.zero_add]; exact row0 h
set_option maxHeartbeats 8000000 in
theorem mc_walk (np : Nat) (P : Nat → Nat → Int) (nf : Nat) (F : Nat → Nat → Int) (kd sz a0 a1 a2 : Int) (hk : 0 ≤ kd ∧ kd ≤ 255) (m : Nat) (g : Nat → Int) (tu : Bool)
    (w a t n : Int) (ha : 0 ≤ a ∧ a ≤ 255) (ht : 0 ≤ t ∧ t ≤ 255) (w' a' t' n' : Int) (ha' : 0 ≤ a' ∧ a' ≤ 255) (ht' : 0 ≤ t' ∧ t' ≤ 255) (v0 v1 v2 z0 z1 z2 : Int) :
    Pure Tryz.prog 4 [meshV np P nf F, draftV kd sz a0 a1 a2 m g tu, .agg (bendV w a t n ++ bendV w' a' t' n'), pt v0 v1 v2, .agg [.int .i16 z0, .int .i16 z1, .int .i16 z2]] (fun o => o = .ret (.bool true)) := by
  refine pure_of Tryz.func4 rfl 400 ?_
  conv => whnf
  refine callP (meshes_pure np P nf F kd sz a0 a1 a2 hk m g tu w a t n ha ht w' a' t' n' ha' ht') rfl ?_
  rintro _ ⟨M0, M1, M2, M3, ⟨l0, l1, l2, l3⟩, rfl⟩
  conv => whnf
  refine loop_unroll Tryz.eok 300 6 ?_
  conv => whnf
  have q0 : BM.le 1000 M0 := ⟨by have := l0.1; show M0.np ≤ 1000; omega, by have := l0.2; show M0.nf ≤ 1000; omega⟩
  refine ⟨fun i _ => rfl, ?_⟩
  conv => whnf
  refine branchT (fits_small (n := 0 + M0.np) (by have := l0.1; show 0 + M0.np ≤ 1000; omega)) ?_
  conv => whnf
  refine ⟨fun i _ => rfl, ?_⟩
  conv => whnf
  refine branchT (fits_small (n := 0 + M0.nf) (by have := l0.2; show 0 + M0.nf ≤ 1000; omega)) ?_
  conv => whnf
  obtain ⟨R0, e0, c0, x0, y0⟩ := tu_both M0
  refine callP1 x0 rfl ?_
  conv => whnf
  refine callP1 y0 rfl ?_
  conv => whnf
  refine branchF (ne_int _) ?_
  conv => whnf
  refine callF1 (same_self c0 (.refl _)) rfl rfl ?_
  conv => whnf
  refine loop_unroll Tryz.eok 300 6 ?_
  conv => whnf
  obtain ⟨R00, e00, c00, x00, y00⟩ := mv_both M0 v0 v1 v2
  refine callP1 x00 rfl ?_
  conv => whnf
  refine callP1 y00 rfl ?_
  conv => whnf
  refine branchF (ne_int _) ?_
  conv => whnf
  refine callF1 (same_self c00 (.refl _)) rfl rfl ?_
  conv => whnf
  refine callF1 (same_self q0 (.agg (.cons (row00 fun j _ => rfl) (.cons (row00 fun j _ => rfl) .nil)))) rfl rfl ?_
  conv => whnf
  obtain ⟨R01, e01, c01, x01, y01⟩ := mv_both M0 (w64 (8 * w64 z0)) (w64 (8 * w64 z1)) (w64 (8 * w64 z2))
  refine callP1 x01 rfl ?_
  conv => whnf
  refine callP1 y01 rfl ?_
  conv => whnf
  refine branchF (ne_int _) ?_
  conv => whnf
  refine callF1 (same_self c01 (.refl _)) rfl rfl ?_
  conv => whnf
  refine callF1 (same_self q0 (.agg (.cons (row00 fun j _ => rfl) (.cons (row00 fun j _ => rfl) .nil)))) rfl rfl ?_
  conv => whnf
  have q1 : BM.le 1000 M1 := ⟨by have := l1.1; show M1.np ≤ 1000; omega, by have := l1.2; show M1.nf ≤ 1000; omega⟩
  refine ⟨fun i _ => rfl, ?_⟩
  conv => whnf
  refine branchT (fits_small (n := 0 + M1.np) (by have := l1.1; show 0 + M1.np ≤ 1000; omega)) ?_
  conv => whnf
  refine ⟨fun i _ => rfl, ?_⟩
  conv => whnf
  refine branchT (fits_small (n := 0 + M1.nf) (by have := l1.2; show 0 + M1.nf ≤ 1000; omega)) ?_
  conv => whnf
  obtain ⟨R1, e1, c1, x1, y1⟩ := tu_both M1
  refine callP1 x1 rfl ?_
  conv => whnf
  refine callP1 y1 rfl ?_
  conv => whnf
  refine branchF (ne_int _) ?_
  conv => whnf
  refine callF1 (same_self c1 (.refl _)) rfl rfl ?_
  conv => whnf
  refine loop_unroll Tryz.eok 300 6 ?_
  conv => whnf
  obtain ⟨R10, e10, c10, x10, y10⟩ := mv_both M1 v0 v1 v2
  refine callP1 x10 rfl ?_
  conv => whnf
  refine callP1 y10 rfl ?_
  conv => whnf
  refine branchF (ne_int _) ?_
  conv => whnf
  refine callF1 (same_self c10 (.refl _)) rfl rfl ?_
  conv => whnf
  refine callF1 (same_self q1 (.agg (.cons (row00 fun j _ => rfl) (.cons (row00 fun j _ => rfl) .nil)))) rfl rfl ?_
  conv => whnf
  obtain ⟨R11, e11, c11, x11, y11⟩ := mv_both M1 (w64 (8 * w64 z0)) (w64 (8 * w64 z1)) (w64 (8 * w64 z2))
  refine callP1 x11 rfl ?_
  conv => whnf
  refine callP1 y11 rfl ?_
  conv => whnf
  refine branchF (ne_int _) ?_
  conv => whnf
  refine callF1 (same_self c11 (.refl _)) rfl rfl ?_
  conv => whnf
  refine callF1 (same_self q1 (.agg (.cons (row00 fun j _ => rfl) (.cons (row00 fun j _ => rfl) .nil)))) rfl rfl ?_
  conv => whnf
  have q2 : BM.le 1000 M2 := ⟨by have := l2.1; show M2.np ≤ 1000; omega, by have := l2.2; show M2.nf ≤ 1000; omega⟩
  refine ⟨fun i _ => rfl, ?_⟩
  conv => whnf
  refine branchT (fits_small (n := 0 + M2.np) (by have := l2.1; show 0 + M2.np ≤ 1000; omega)) ?_
  conv => whnf
  refine ⟨fun i _ => rfl, ?_⟩
  conv => whnf
  refine branchT (fits_small (n := 0 + M2.nf) (by have := l2.2; show 0 + M2.nf ≤ 1000; omega)) ?_
  conv => whnf
  obtain ⟨R2, e2, c2, x2, y2⟩ := tu_both M2
  refine callP1 x2 rfl ?_
  conv => whnf
  refine callP1 y2 rfl ?_
  conv => whnf
  refine branchF (ne_int _) ?_
  conv => whnf
  refine callF1 (same_self c2 (.refl _)) rfl rfl ?_
  conv => whnf
  refine loop_unroll Tryz.eok 300 6 ?_
  conv => whnf
  obtain ⟨R20, e20, c20, x20, y20⟩ := mv_both M2 v0 v1 v2
  refine callP1 x20 rfl ?_
  conv => whnf
  refine callP1 y20 rfl ?_
  conv => whnf
  refine branchF (ne_int _) ?_
  conv => whnf
  refine callF1 (same_self c20 (.refl _)) rfl rfl ?_
  conv => whnf
  refine callF1 (same_self q2 (.agg (.cons (row00 fun j _ => rfl) (.cons (row00 fun j _ => rfl) .nil)))) rfl rfl ?_
  conv => whnf
  obtain ⟨R21, e21, c21, x21, y21⟩ := mv_both M2 (w64 (8 * w64 z0)) (w64 (8 * w64 z1)) (w64 (8 * w64 z2))
  refine callP1 x21 rfl ?_
  conv => whnf
  refine callP1 y21 rfl ?_
  conv => whnf
  refine branchF (ne_int _) ?_
  conv => whnf
  refine callF1 (same_self c21 (.refl _)) rfl rfl ?_
  conv => whnf
  refine callF1 (same_self q2 (.agg (.cons (row00 fun j _ => rfl) (.cons (row00 fun j _ => rfl) .nil)))) rfl rfl ?_
  conv => whnf
  have q3 : BM.le 1000 M3 := ⟨by have := l3.1; show M3.np ≤ 1000; omega, by have := l3.2; show M3.nf ≤ 1000; omega⟩
  refine ⟨fun i _ => rfl, ?_⟩
  conv => whnf
  refine branchT (fits_small (n := 0 + M3.np) (by have := l3.1; show 0 + M3.np ≤ 1000; omega)) ?_
  conv => whnf
  refine ⟨fun i _ => rfl, ?_⟩
  conv => whnf
  refine branchT (fits_small (n := 0 + M3.nf) (by have := l3.2; show 0 + M3.nf ≤ 1000; omega)) ?_
  conv => whnf
  obtain ⟨R3, e3, c3, x3, y3⟩ := tu_both M3
  refine callP1 x3 rfl ?_
  conv => whnf
  refine callP1 y3 rfl ?_
  conv => whnf
  refine branchF (ne_int _) ?_
  conv => whnf
  refine callF1 (same_self c3 (.refl _)) rfl rfl ?_
  conv => whnf
  refine loop_unroll Tryz.eok 300 6 ?_
  conv => whnf
  obtain ⟨R30, e30, c30, x30, y30⟩ := mv_both M3 v0 v1 v2
  refine callP1 x30 rfl ?_
  conv => whnf
  refine callP1 y30 rfl ?_
  conv => whnf
  refine branchF (ne_int _) ?_
  conv => whnf
  refine callF1 (same_self c30 (.refl _)) rfl rfl ?_
  conv => whnf
  refine callF1 (same_self q3 (.agg (.cons (row00 fun j _ => rfl) (.cons (row00 fun j _ => rfl) .nil)))) rfl rfl ?_
  conv => whnf
  obtain ⟨R31, e31, c31, x31, y31⟩ := mv_both M3 (w64 (8 * w64 z0)) (w64 (8 * w64 z1)) (w64 (8 * w64 z2))
  refine callP1 x31 rfl ?_
  conv => whnf
  refine callP1 y31 rfl ?_
  conv => whnf
  refine branchF (ne_int _) ?_
  conv => whnf
  refine callF1 (same_self c31 (.refl _)) rfl rfl ?_
  conv => whnf
  refine callF1 (same_self q3 (.agg (.cons (row00 fun j _ => rfl) (.cons (row00 fun j _ => rfl) .nil)))) rfl rfl ?_
  conv => whnf
  refine callF1 works_pure rfl rfl ?_
  conv => whnf
  rfl
end Go.Proofs.YtkhbmendaapojaaGreatDoor
/- MeshChanges: from what fits its parameters. -/
namespace Go.Proofs.YtkhbmendaapojaaGreatDoor
open Go Go.Vx Go.Num
set_option maxRecDepth 100000
theorem fit_three {k : IntKind} {t : Nat} (e : lfT Tryz.tab true 9 t = some [.sh (.int k), .sh (.int k), .sh (.int k)]) (e2 : (Tryz.tab t).ty.agg = true) {v : V} (h : FitV Tryz.tab t v) : ∃ a b c, v = .agg [.int k a, .int k b, .int k c] := by
  obtain ⟨l, vs, hl, hf, hv⟩ := h
  rw [e] at hl
  cases hl
  rw [e2] at hv
  obtain ⟨a, us, rfl, _, hf1⟩ := fit_int hf
  obtain ⟨b, us, rfl, _, hf2⟩ := fit_int hf1
  obtain ⟨c, us, rfl, _, hf3⟩ := fit_int hf2
  obtain rfl := fit_nil hf3
  exact ⟨a, b, c, hv⟩
theorem meshChanges_pure (Vs : List V) (h : FitAll Tryz.tab Tryz.f4.params.toList Vs) : Pure Tryz.prog 4 Vs (fun o => o = .ret (.bool true)) := by
  have h : FitAll Tryz.tab [24, 29, 32, 41, 26] Vs := h
  match Vs, h with
  | [v1, v2, v3, v4, v5], ⟨h1, h2, h3, h4, h5, _⟩ =>
    obtain ⟨np, P, nf, F, rfl⟩ := fit_mesh h1
    obtain ⟨kd, sz, a0, a1, a2, m, g, tu, hk, rfl⟩ := fit_draft h2
    obtain ⟨w, a, t, n, w', a', t', n', ha, ht, ha', ht', rfl⟩ := fit_bends h3
    obtain ⟨x0, x1, x2, rfl⟩ := fit_three (k := .i64) (by kernel_rfl) (by kernel_rfl) h4
    obtain ⟨z0, z1, z2, rfl⟩ := fit_three (k := .i16) (by kernel_rfl) (by kernel_rfl) h5
    exact mc_walk np P nf F kd sz a0 a1 a2 hk m g tu w a t n ha ht w' a' t' n' ha' ht' x0 x1 x2 z0 z1 z2
end Go.Proofs.YtkhbmendaapojaaGreatDoor
/- MeshChanges: the law of the chapter holds of every input: its row, and its card. -/
namespace Go.Proofs.YtkhbmendaapojaaGreatDoor
open Go Go.Vx Go.ChangeShapes Go.WideShapes Go.RowKit
set_option maxRecDepth 100000
theorem meshChanges_lifted (os : Os) (started : os.Started) (H : Type) (enc : TypeId × Value → H) :
    ReturnsInHanded {} Tryz.checked os 4 .any (fun w args => (Rows.meshChangesSpec.pre enc Tryz.prog Tryz.f4 [] false w args ∧ laidMetH Tryz.prog Rows.meshChangesRow.laid w) ∧ sizedMet enc Tryz.prog Tryz.f4 (OpenSpec.ofChange Rows.meshChangesSpec) false w args)
      (Rows.meshChangesSpec.post enc Tryz.prog Tryz.f4 false true false false) := by
  refine returnsInHanded_of_change_and (C := Tryz.checked) (X := fun w _ => laidMetH Tryz.prog Rows.meshChangesRow.laid w) (fun _ _ _ hh h => h.of_heap hh) own0 started (by kernel_rfl) Tryz.func4
    (ChangeSpec.witness_shaped (enc := enc) (C := Tryz.checked) (os := os) (X := fun w _ => laidMetH Tryz.prog Rows.meshChangesRow.laid w) false (World.doorLaid Tryz.prog 400 os) #[.agg #[.slice none 0 0, .slice none 0 0], .agg #[.int .u8 0, .int .u8 0, .int .i16 0, .int .i16 0, .int .i16 0, .slice none 0 0, .bool false], .agg #[.int .u8 0, .int .u8 0, .int .u8 0, .int .i64 0, .int .u8 0, .int .u8 0, .int .u8 0, .int .i64 0], .agg #[.int .i64 0, .int .i64 0, .int .i64 0], .agg #[.int .i16 0, .int .i16 0, .int .i16 0]] 12 rfl (shaped0 os _) (by kernel_rfl) (by kernel_rfl) (by kernel_rfl) (door0 os _)) ?_
  intro W base args ds gs before hval hW _ _ hL _
  refine law_calls (T := Tryz.tab) (b := 4) Tryz.tok laidOut0 rfl ?_ rfl Tryz.underlying4 ?_ hval hW (glob0 hL) ?_
  · intro ds hds
    have hp : Tryz.f4.params.size = 5 := rfl
    rw [hp] at hds
    match ds, hds with
    | [_, _, _, _, _], _ => rfl
  · intro t ht
    have ht : t ∈ ([24, 29, 32, 41, 26] : List Nat) := ht
    simp only [List.mem_cons, List.not_mem_nil, or_false] at ht
    rcases ht with rfl | rfl | rfl | rfl | rfl
    all_goals exact ⟨by kernel_rfl, of_decide_eq_true (by kernel_rfl), by kernel_rfl⟩
  · exact fun Vs h => meshChanges_pure Vs h
theorem meshChanges_holds : Rows.MeshChangesSaid :=
  OpenClaim.holds_of_wide 4 Tryz.f4 rfl rfl rfl rfl rfl rfl rfl ⟨rfl, rfl, rfl, rfl, rfl⟩ rfl rfl rfl rfl rfl (by kernel_rfl) Tryz.func4 (by kernel_rfl)
    (of_decide_eq_true (by kernel_rfl)) (by unfold Func.isWrapper; rw [if_neg (of_decide_eq_false (by kernel_rfl))]; exact ⟨rfl, rfl⟩)
    (fun os started H enc _ => meshChanges_lifted os started H enc)
theorem meshChanges_card : Rows.MeshChangesCardSaid :=
  Claim7.holds_tied_plain_at .later [] [.data, .data, .data, .sentinel, .sentinel] true (true, "41064d927b8550ee3a774af7aafa0f1c5e0adbd75066ec920d62864df12f8d35") true
    meshChanges_holds (fun _ h => by cases h) (by kernel_rfl) (fun _ h => by cases h) meshChanges_row_tie rfl ⟨rfl, rfl⟩ (by kernel_rfl) rfl
    (fun f fn hf hfn => by
      obtain rfl : f = 4 := Option.some.inj ((show Tryz.prog.funcNamed "verdigris/verdigrislaw35.MeshChanges" = some 4 by kernel_rfl).symm.trans hf) |>.symm
      obtain rfl : fn = Tryz.f4 := (Option.some.inj (Tryz.func4.symm.trans hfn)).symm
      exact ⟨by kernel_rfl, fun j t ht => by
        have hm : t ∈ ([24, 29, 32, 41, 26] : List Nat) := by simpa using Array.mem_of_getElem? ht
        have hall : (([24, 29, 32, 41, 26] : List Nat).all fun u => !Tryz.prog.wantsStandIn u) = true := by kernel_rfl
        exact (show Tryz.prog.wantsStandIn t = false by simpa using List.all_eq_true.1 hall t hm)⟩)
    (by kernel_rfl)
end Go.Proofs.YtkhbmendaapojaaGreatDoor
