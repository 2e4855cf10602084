/- A change of a mesh (Bend.of). (Printed by bngen.py.) -/
import Derived.Test.YtkhbmendaapojaaGreatDoorPkBa16
set_option linter.unusedSimpArgs false
set_option linter.unusedVariables false
/- A change of a mesh (Bend.of). (Printed by bngen.py.) -/
namespace Go.Proofs.YtkhbmendaapojaaGreatDoor
open Go Go.Vx
set_option maxRecDepth 100000
attribute [local irreducible] CallV LoopV CodeV
structure BM where
  np : Nat
  P : Nat → Nat → Int
  nf : Nat
  F : Nat → Nat → Int
abbrev BM.v (m : BM) : V := meshV m.np m.P m.nf m.F
/-- A row with another one behind it. -/
def pushF (K : Nat) (F r : Nat → Nat → Int) (i c : Nat) : Int := if i < K then F i c else r (i - K) c
def tri (a b c : Int) (_ k : Nat) : Int := match k with
  | 0 => a
  | 1 => b
  | _ => c
theorem row_push {K m : Nat} {G N F r : Nat → Nat → Int} (hG : ∀ i, i < K → G i 0 = F i 0 ∧ G i 1 = F i 1 ∧ G i 2 = F i 2) (hN : ∀ i, i < m → N i 0 = r i 0 ∧ N i 1 = r i 1 ∧ N i 2 = r i 2) {j : Nat} (hj : j < K + m) :
    [i64 (appF K G N (0 + j) 0), i64 (appF K G N (0 + j) 1), i64 (appF K G N (0 + j) 2)] = [i64 (pushF K F r j 0), i64 (pushF K F r j 1), i64 (pushF K F r j 2)] := by
  rw [Nat.zero_add]
  by_cases h : j < K
  · obtain ⟨a, b, c⟩ := hG j h
    simp only [appF_lt h, pushF, if_pos h, a, b, c]
  · obtain ⟨a, b, c⟩ := hN (j - K) (by omega)
    simp only [appF_ge (Nat.le_of_not_lt h), pushF, if_neg h, a, b, c]
/-- Faces of a second mesh beside the first one; its points. -/
def sndF (np nf : Nat) (F : Nat → Nat → Int) (i c : Nat) : Int := if i < nf then F i c else w64 (F (i - nf) c + np)
def sndP (np : Nat) (P : Nat → Nat → Int) (i c : Nat) : Int := if i < np then P i c else if c = 0 then w64 (P (i - np) 0 + 5000) else P (i - np) c
/-- .. that shares the point 0 with the first one. -/
def shrF (np nf : Nat) (F : Nat → Nat → Int) (i c : Nat) : Int := if i < nf then F i c else if 0 < F (i - nf) c then w64 (F (i - nf) c + w64 (np - 1)) else F (i - nf) c
def shrP (np : Nat) (P : Nat → Nat → Int) (i c : Nat) : Int := if i < np then P i c else w64 (w64 (2 * P 0 c) - P (i - np + 1) c)
/-- What a change does to a mesh: A, B: the point and the face that it speaks of. -/
def bendC (x A B tm t n : Int) (np : Nat) (P : Nat → Nat → Int) (nf : Nat) (F : Nat → Nat → Int) : BM :=
  if x = 0 then ⟨np, up2 P (0 + A.toNat) (0 + tm.toNat * 1) n, nf, F⟩
  else if x = 1 then ⟨np, up2 (up2 (up2 P (0 + A.toNat) 0 (P (0 + ((w64 t).tmod np).toNat) 0)) (0 + A.toNat) 1 (P (0 + ((w64 t).tmod np).toNat) 1)) (0 + A.toNat) 2 (P (0 + ((w64 t).tmod np).toNat) 2), nf, F⟩
  else if x = 2 then ⟨np, P, nf, up2 F (0 + B.toNat) (0 + tm.toNat * 1) n⟩
  else if x = 3 then ⟨np, P, nf, up2 F (0 + B.toNat) (0 + tm.toNat * 1) ((w64 t).tmod np)⟩
  else if x = 4 then ⟨np, P, B.toNat + (nf - (w64 (B + 1)).toNat), pushF B.toNat F (fun i c => F ((w64 (B + 1)).toNat + i) c)⟩
  else if x = 5 then ⟨np, P, nf + 1, pushF nf F (tri (F (0 + B.toNat) 0) (F (0 + B.toNat) 1) (F (0 + B.toNat) 2))⟩
  else if x = 6 then ⟨np, P, nf, up2 (up2 F (0 + B.toNat) 0 (F (0 + B.toNat) 1)) (0 + B.toNat) 1 (F (0 + B.toNat) 0)⟩
  else if x = 7 then ⟨np + 1, pushF np P (tri 1 2 3), nf, F⟩
  else if x = 8 then ⟨np + np, sndP np P, nf + nf, sndF np nf F⟩
  else if x = 9 then ⟨A.toNat, P, nf, F⟩
  else if x = 10 then ⟨np + (np - 1), shrP np P, nf + nf, shrF np nf F⟩
  else ⟨np, P, nf, F⟩
def bendM (w a t n : Int) (np : Nat) (P : Nat → Nat → Int) (nf : Nat) (F : Nat → Nat → Int) : BM :=
  if min np 40 = 0 ∨ min nf 40 = 0 then ⟨min np 40, P, min nf 40, F⟩
  else bendC (w.tmod 12) ((w64 a).tmod (min np 40 : Nat)) ((w64 a).tmod (min nf 40 : Nat)) (t.tmod 3) t n (min np 40) P (min nf 40) F
theorem sndF_lt {np nf : Nat} {F : Nat → Nat → Int} {i c : Nat} (h : i < nf) : sndF np nf F i c = F i c := by rw [sndF, if_pos h]
theorem sndF_at {np nf : Nat} {F : Nat → Nat → Int} {i c : Nat} : sndF np nf F (nf + i) c = w64 (F i c + np) := by rw [sndF, if_neg (by omega), Nat.add_sub_cancel_left]
theorem sndP_lt {np : Nat} {P : Nat → Nat → Int} {i c : Nat} (h : i < np) : sndP np P i c = P i c := by rw [sndP, if_pos h]
theorem sndP_at0 {np : Nat} {P : Nat → Nat → Int} {i : Nat} : sndP np P (np + i) 0 = w64 (P i 0 + 5000) := by rw [sndP, if_neg (by omega), if_pos rfl, Nat.add_sub_cancel_left]
theorem sndP_at {np : Nat} {P : Nat → Nat → Int} {i c : Nat} (hc : c ≠ 0) : sndP np P (np + i) c = P i c := by rw [sndP, if_neg (by omega), if_neg hc, Nat.add_sub_cancel_left]
theorem shrF_lt {np nf : Nat} {F : Nat → Nat → Int} {i c : Nat} (h : i < nf) : shrF np nf F i c = F i c := by rw [shrF, if_pos h]
theorem shrF_pos {np nf : Nat} {F : Nat → Nat → Int} {i c : Nat} (h : 0 < F i c) : shrF np nf F (nf + i) c = w64 (F i c + w64 (np - 1)) := by rw [shrF, if_neg (by omega), Nat.add_sub_cancel_left, if_pos h]
theorem shrF_neg {np nf : Nat} {F : Nat → Nat → Int} {i c : Nat} (h : ¬ 0 < F i c) : shrF np nf F (nf + i) c = F i c := by rw [shrF, if_neg (by omega), Nat.add_sub_cancel_left, if_neg h]
theorem shrP_lt {np : Nat} {P : Nat → Nat → Int} {i c : Nat} (h : i < np) : shrP np P i c = P i c := by rw [shrP, if_pos h]
theorem shrP_at {np : Nat} {P : Nat → Nat → Int} {i c : Nat} : shrP np P (np + i) c = w64 (w64 (2 * P 0 c) - P (i + 1) c) := by rw [shrP, if_neg (by omega), Nat.add_sub_cancel_left]
theorem sliceG {x : Int} {n : Nat} (h0 : 0 ≤ x) (h1 : x ≤ n) : (decide ((0 : Int) ≤ 0) && (decide (0 ≤ x) && decide (x ≤ (n : Int)))) = true := by simp [h0, h1]
theorem sliceG3 {lo hi n : Int} (h : 0 ≤ lo) (h2 : lo ≤ hi) (h3 : hi ≤ n) : (decide (0 ≤ lo) && (decide (lo ≤ hi) && decide (hi ≤ n))) = true := by simp [h, h2, h3]
theorem fits_small {n : Nat} (h : n ≤ 1000) : fits 24 n = true := by unfold fits; simp; omega
/-- The environment in which both outcomes of an append are gone into. -/
noncomputable def Tryz.E2 : Env := { Tryz.E with two := true }
theorem Tryz.e2ok : EnvOk Tryz.E2 := ⟨Tryz.eok.T, Tryz.eok.ok, Tryz.eok.inl, Tryz.eok.fr, Tryz.eok.ext, Tryz.eok.mixed⟩
/-- A loop that appends to the list that it ranges over: whether the list has its old place, the round, the list, the old list. -/
structure BL where
  b : Bool
  i : Nat
  gi : Nat → Nat → Int
  gb : Nat → Nat → Bool
  gs : Nat → Nat → List UInt8
  ho : Nat → Nat → Int
  hb : Nat → Nat → Bool
  hs : Nat → Nat → List UInt8

theorem row0 {n : Nat} {f : Nat → List V} {P : Nat → Nat → Int} (h : ∀ i, i < n → f i = [i64 (P (0 + i) 0), i64 (P (0 + i) 1), i64 (P (0 + i) 2)]) : SubV (.ro 3 n f) (rows3 n P) :=
  SubV.ro fun i hi => by rw [h i hi, Nat.zero_add]
theorem tmod_in {a : Int} {n : Nat} (ha : 0 ≤ a) (hn : 0 < n) : 0 ≤ a.tmod n ∧ a.tmod n < n := by
  rw [Int.tmod_eq_emod_of_nonneg ha]
  exact ⟨Int.emod_nonneg _ (by omega), Int.emod_lt_of_pos _ (by omega)⟩
theorem zfun (P : Nat → Nat → Int) : (fun j c => P (0 + j) c) = P := by funext j c; rw [Nat.zero_add]
set_option maxHeartbeats 4000000 in
theorem bend_pure (w a t n : Int) (ha : 0 ≤ a ∧ a ≤ 255) (ht : 0 ≤ t ∧ t ≤ 255) (np : Nat) (P : Nat → Nat → Int) (nf : Nat) (F : Nat → Nat → Int) :
    Pure Tryz.prog 35 [.agg [.int .u8 w, .int .u8 a, .int .u8 t, i64 n], meshV np P nf F] (fun o => o = .ret (bendM w a t n np P nf F).v) := by
  refine Pure.retSub (pure_of Tryz.func35 rfl 400 ?_)
  obtain ⟨kp, hkp, hmp, kp1, kp2⟩ : ∃ k : Nat, (if (40 : Int) < (np : Int) then (40 : Int) else (np : Int)) = (k : Int) ∧ min np 40 = 0 + k ∧ k ≤ 40 ∧ k ≤ np := ⟨min np 40, by split <;> omega, by omega, by omega, by omega⟩
  obtain ⟨kf, hkf, hmf, kf1, kf2⟩ : ∃ k : Nat, (if (40 : Int) < (nf : Int) then (40 : Int) else (nf : Int)) = (k : Int) ∧ min nf 40 = 0 + k ∧ k ≤ 40 ∧ k ≤ nf := ⟨min nf 40, by split <;> omega, by omega, by omega, by omega⟩
  have wa : w64 a = a := w64_in (by omega)
  have wt : w64 t = t := w64_in (by omega)
  have z : ∀ (F : Nat → Nat → Int) i c, F (0 + (0 + i)) c = F (0 + i) c := fun F i c => by rw [Nat.zero_add (0 + i)]
  have none' : kp = 0 ∨ kf = 0 → bendM w a t n np P nf F = ⟨0 + kp, fun j c => P (0 + j) c, 0 + kf, fun j c => F (0 + j) c⟩ := fun h => by
    rw [bendM, if_pos (by omega), hmp, hmf, zfun, zfun]
  have leaf : 0 < kp → 0 < kf → ∀ x, (w.tmod 12 == x) = true → bendM w a t n np P nf F = bendC x ((w64 a).tmod (0 + kp : Nat)) ((w64 a).tmod (0 + kf : Nat)) (t.tmod 3) t n (0 + kp) (fun j c => P (0 + j) c) (0 + kf) (fun j c => F (0 + j) c) := fun h h' x hx => by
    rw [bendM, if_neg (by omega), hmp, hmf, zfun, zfun, eq_of_beq hx]
  conv => whnf
  rw [hkp]
  refine branchT (by simp; omega) ?_
  conv => whnf
  refine ⟨fun i _ => rfl, ?_⟩
  conv => whnf
  refine branchT (show fits 24 (0 + ((kp : Int).toNat - Int.toNat 0)) = true by unfold fits; simp; omega) ?_
  conv => whnf
  rw [hkf]
  refine branchT (by simp; omega) ?_
  conv => whnf
  refine ⟨fun i _ => rfl, ?_⟩
  conv => whnf
  refine branchT (show fits 24 (0 + ((kf : Int).toNat - Int.toNat 0)) = true by unfold fits; simp; omega) ?_
  conv => whnf
  refine branchI (fun h1 => ?_) (fun h1 => ?_)
  · have h1 : (((0 + kp : Nat) : Int) == 0) = true := h1
    conv => whnf
    rw [none' (.inl (by simp at h1; omega))]
    exact RetSub.of (.agg (.cons (row0 fun j _ => rfl) (.cons (row0 fun j _ => rfl) .nil)))
  have h1 : (((0 + kp : Nat) : Int) == 0) = false := h1
  have p0 : 0 < kp := by simp at h1; omega
  conv => whnf
  refine branchI (fun h2 => ?_) (fun h2 => ?_)
  · have h2 : (((0 + kf : Nat) : Int) == 0) = true := h2
    conv => whnf
    rw [none' (.inr (by simp at h2; omega))]
    exact RetSub.of (.agg (.cons (row0 fun j _ => rfl) (.cons (row0 fun j _ => rfl) .nil)))
  have h2 : (((0 + kf : Nat) : Int) == 0) = false := h2
  have f0 : 0 < kf := by simp at h2; omega
  have leaf := leaf p0 f0
  obtain ⟨A0, A1⟩ := tmod_in (a := w64 a) (n := 0 + kp) (by omega) (by omega)
  obtain ⟨B0, B1⟩ := tmod_in (a := w64 a) (n := 0 + kf) (by omega) (by omega)
  obtain ⟨T0, T1⟩ := tmod_in (a := t) (n := 3) (by omega) (by omega)
  obtain ⟨U0, U1⟩ := tmod_in (a := w64 t) (n := 0 + kp) (by omega) (by omega)
  have gA : (decide (0 ≤ (w64 a).tmod (0 + kp : Nat)) && decide ((w64 a).tmod (0 + kp : Nat) < ((0 + kp : Nat) : Int))) = true := guardI ⟨A0, A1⟩
  have gB : (decide (0 ≤ (w64 a).tmod (0 + kf : Nat)) && decide ((w64 a).tmod (0 + kf : Nat) < ((0 + kf : Nat) : Int))) = true := guardI ⟨B0, B1⟩
  have gT : (decide (0 ≤ t.tmod 3) && decide (t.tmod 3 < ((3 : Nat) : Int))) = true := guardI ⟨T0, T1⟩
  have gU : (decide (0 ≤ (w64 t).tmod (0 + kp : Nat)) && decide ((w64 t).tmod (0 + kp : Nat) < ((0 + kp : Nat) : Int))) = true := guardI ⟨U0, U1⟩
  have t3 : t.tmod 3 = 0 ∨ t.tmod 3 = 1 ∨ t.tmod 3 = 2 := by
    have h0 : 0 ≤ t.tmod 3 := T0
    have h1 : t.tmod 3 < 3 := T1
    omega
  have np0 : (!decide (((0 + kp : Nat) : Int) = 0)) = true := by simp; omega
  have nf0 : (!decide (((0 + kf : Nat) : Int) = 0)) = true := by simp; omega
  conv => whnf
  refine branchT np0 ?_
  conv => whnf
  refine branchT nf0 ?_
  conv => whnf
  refine branchI (fun x0 => ?_) (fun x0 => ?_)
  · have x0 : (w.tmod 12 == 0) = true := x0
    conv => whnf
    refine branchT gA ?_
    conv => whnf
    refine branchT gT ?_
    rcases t3 with t3 | t3 | t3 <;> rw [t3]
    all_goals
      conv => whnf
      rw [leaf 0 x0, t3]
      exact RetSub.of (.agg (.cons (row0 fun j _ => rfl) (.cons (row0 fun j _ => rfl) .nil)))
  conv => whnf
  refine branchI (fun x1 => ?_) (fun x1 => ?_)
  · have x1 : (w.tmod 12 == 1) = true := x1
    conv => whnf
    refine branchT np0 ?_
    conv => whnf
    refine branchT gU ?_
    conv => whnf
    refine branchT gA ?_
    conv => whnf
    rw [leaf 1 x1]
    exact RetSub.of (.agg (.cons (row0 fun j _ => rfl) (.cons (row0 fun j _ => rfl) .nil)))
  conv => whnf
  refine branchI (fun x2 => ?_) (fun x2 => ?_)
  · have x2 : (w.tmod 12 == 2) = true := x2
    conv => whnf
    refine branchT gB ?_
    conv => whnf
    refine branchT gT ?_
    rcases t3 with t3 | t3 | t3 <;> rw [t3]
    all_goals
      conv => whnf
      rw [leaf 2 x2, t3]
      exact RetSub.of (.agg (.cons (row0 fun j _ => rfl) (.cons (row0 fun j _ => rfl) .nil)))
  conv => whnf
  refine branchI (fun x3 => ?_) (fun x3 => ?_)
  · have x3 : (w.tmod 12 == 3) = true := x3
    conv => whnf
    refine branchT np0 ?_
    conv => whnf
    refine branchT gB ?_
    conv => whnf
    refine branchT gT ?_
    rcases t3 with t3 | t3 | t3 <;> rw [t3]
    all_goals
      conv => whnf
      rw [leaf 3 x3, t3]
      exact RetSub.of (.agg (.cons (row0 fun j _ => rfl) (.cons (row0 fun j _ => rfl) .nil)))
  conv => whnf
  refine branchI (fun x4 => ?_) (fun x4 => ?_)
  · have x4 : (w.tmod 12 == 4) = true := x4
    conv => whnf
    have b1 : w64 ((w64 a).tmod (0 + kf : Nat) + 1) = (w64 a).tmod (0 + kf : Nat) + 1 := w64_in (by omega)
    refine branchT (sliceG (x := (w64 a).tmod (0 + kf : Nat)) (n := 0 + kf) B0 (by omega)) ?_
    conv => whnf
    refine branchT (sliceG3 (lo := w64 ((w64 a).tmod (0 + kf : Nat) + 1)) (hi := ((0 + kf : Nat) : Int)) (n := ((0 + kf : Nat) : Int)) (by rw [b1]; omega) (by rw [b1]; omega) (Int.le_refl _)) ?_
    conv => whnf
    refine branchT (fits_small (n := ((w64 a).tmod (0 + kf : Nat)).toNat + ((0 + kf) - (w64 ((w64 a).tmod (0 + kf : Nat) + 1)).toNat)) (by omega)) ?_
    conv => whnf
    rw [leaf 4 x4]
    refine RetSub.of (.agg (.cons (row0 fun j _ => rfl) (.cons (SubV.ro fun j hj => ?_) .nil)))
    refine (row_push (K := ((w64 a).tmod (0 + kf : Nat)).toNat) (m := (0 + kf) - (w64 ((w64 a).tmod (0 + kf : Nat) + 1)).toNat) (F := fun j c => F (0 + j) c) (r := fun i c => F (0 + ((w64 ((w64 a).tmod (0 + kf : Nat) + 1)).toNat + i)) c) ?_ ?_ hj).trans rfl
    · exact fun i _ => ⟨z F i 0, z F i 1, z F i 2⟩
    · intro i _
      have e : ∀ c, F (0 + (0 + (w64 ((w64 a).tmod (0 + kf : Nat) + 1)).toNat + i)) c = F (0 + ((w64 ((w64 a).tmod (0 + kf : Nat) + 1)).toNat + i)) c := fun c => by rw [Nat.zero_add (w64 _).toNat]
      exact ⟨e 0, e 1, e 2⟩
  conv => whnf
  refine branchI (fun x5 => ?_) (fun x5 => ?_)
  · have x5 : (w.tmod 12 == 5) = true := x5
    conv => whnf
    refine branchT gB ?_
    conv => whnf
    refine branchT (show fits 24 ((0 + kf) + 1) = true by unfold fits; simp; omega) ?_
    conv => whnf
    rw [leaf 5 x5]
    refine RetSub.of (.agg (.cons (row0 fun j _ => rfl) (.cons (SubV.ro fun j hj => ?_) .nil)))
    refine (row_push (K := 0 + kf) (m := 1) (F := fun j c => F (0 + j) c) (r := tri (F (0 + (0 + ((w64 a).tmod (0 + kf : Nat)).toNat)) 0) (F (0 + (0 + ((w64 a).tmod (0 + kf : Nat)).toNat)) 1) (F (0 + (0 + ((w64 a).tmod (0 + kf : Nat)).toNat)) 2)) ?_ ?_ hj).trans rfl
    · exact fun i _ => ⟨z F i 0, z F i 1, z F i 2⟩
    · intro i hi
      obtain rfl : i = 0 := by omega
      exact ⟨rfl, rfl, rfl⟩
  conv => whnf
  refine branchI (fun x6 => ?_) (fun x6 => ?_)
  · have x6 : (w.tmod 12 == 6) = true := x6
    conv => whnf
    refine branchT gB ?_
    conv => whnf
    refine branchT gB ?_
    conv => whnf
    refine branchT gB ?_
    conv => whnf
    refine branchT gB ?_
    conv => whnf
    rw [leaf 6 x6]
    exact RetSub.of (.agg (.cons (row0 fun j _ => rfl) (.cons (row0 fun j _ => rfl) .nil)))
  conv => whnf
  refine branchI (fun x7 => ?_) (fun x7 => ?_)
  · have x7 : (w.tmod 12 == 7) = true := x7
    conv => whnf
    refine branchT (show fits 24 ((0 + kp) + 1) = true by unfold fits; simp; omega) ?_
    conv => whnf
    rw [leaf 7 x7]
    refine RetSub.of (.agg (.cons (SubV.ro fun j hj => ?_) (.cons (row0 fun j _ => rfl) .nil)))
    refine (row_push (K := 0 + kp) (m := 1) (F := fun j c => P (0 + j) c) (r := tri 1 2 3) ?_ ?_ hj).trans rfl
    · exact fun i _ => ⟨z P i 0, z P i 1, z P i 2⟩
    · intro i hi
      obtain rfl : i = 0 := by omega
      exact ⟨rfl, rfl, rfl⟩
  conv => whnf
  refine branchI (fun x8 => ?_) (fun x8 => ?_)
  · have x8 : (w.tmod 12 == 8) = true := x8
    conv => whnf
    refine loop_inv Tryz.e2ok 300 (fun s : BL => s.i ≤ 0 + kf ∧ (∀ j, j < 0 + kf + s.i → s.gi j 0 = sndF (0 + kp) (0 + kf) F j 0 ∧ s.gi j 1 = sndF (0 + kp) (0 + kf) F j 1 ∧ s.gi j 2 = sndF (0 + kp) (0 + kf) F j 2) ∧ ∀ j, j < 0 + kf → s.ho j 0 = F j 0 ∧ s.ho j 1 = F j 1 ∧ s.ho j 2 = F j 2) (fun s => 0 + kf - s.i)
      (fun s => slots [(4, .ptr 2 0 0), (5, .ptr 22 0 0), (6, i64 (0 + kp : Nat)), (178, match s.b with | true => .sl 34 3 0 (0 + kf) (0 + kf) | false => .sl 35 3 0 (0 + kf) (0 + kf)), (179, i64 (0 + kf : Nat)), (180, i64 s.i)] 0 305)
      (fun s => .dead :: .dead :: .fix 24 [.nilSl, .nilSl] :: .dead :: .dead :: .dead :: .dead :: .dead :: .dead :: .dead :: .dead :: .arr 41 sh3 (fun i c => cInt (nthV [i64 (P (0 + i) 0), i64 (P (0 + i) 1), i64 (P (0 + i) 2)] c)) (fun i c => cBool (nthV [i64 (P (0 + i) 0), i64 (P (0 + i) 1), i64 (P (0 + i) 2)] c)) (fun i c => cStr (nthV [i64 (P (0 + i) 0), i64 (P (0 + i) 1), i64 (P (0 + i) 2)] c)) :: .dead :: .dead :: .dead :: .dead :: .dead :: .dead :: .dead :: .dead :: .dead :: .dead :: .fix 24 [.sl 11 3 0 (0 + kp) (0 + kp), .sl 34 3 0 (0 + kf + s.i) (0 + kf + s.i)] :: .dead :: .dead :: .dead :: .dead :: .dead :: .dead :: .dead :: .dead :: .dead :: .dead :: .dead :: .arr 41 sh3 s.gi s.gb s.gs :: (match s.b with | true => [] | false => [.arr 41 sh3 s.ho s.hb s.hs]))
      ⟨true, 0, ?gi0f178, ?gb0f178, ?gs0f178, F, fun _ _ => false, fun _ _ => []⟩ [20] ?i0f178 ?l0f178 rfl ?_
    case l0f178 =>
      repeat' constructor
      all_goals exact rfl
    case i0f178 =>
      refine ⟨Nat.zero_le _, fun j hj => ?_, fun j _ => ⟨rfl, rfl, rfl⟩⟩
      have hj : j < 0 + kf := hj
      have e : ∀ c, sndF (0 + kp) (0 + kf) F j c = F (0 + j) c := fun c => by rw [sndF_lt hj, Nat.zero_add]
      rw [e, e, e]
      exact ⟨rfl, rfl, rfl⟩
    rintro ⟨b, i, gi, gb, gs, ho, hb, hs⟩ ⟨hi, hg, hh⟩
    cases b with
    | true =>
      have hi : i ≤ 0 + kf := hi
      have hg : ∀ j, j < 0 + kf + i → gi j 0 = sndF (0 + kp) (0 + kf) F j 0 ∧ gi j 1 = sndF (0 + kp) (0 + kf) F j 1 ∧ gi j 2 = sndF (0 + kp) (0 + kf) F j 2 := hg
      have hh : ∀ j, j < 0 + kf → ho j 0 = F j 0 ∧ ho j 1 = F j 1 ∧ ho j 2 = F j 2 := hh
      have hl : ∀ j, j < 0 + kf → gi j 0 = F j 0 ∧ gi j 1 = F j 1 ∧ gi j 2 = F j 2 := fun j hj => by
        obtain ⟨a, b, c⟩ := hg j (by omega)
        rw [a, b, c, sndF_lt hj, sndF_lt hj, sndF_lt hj]
        exact ⟨rfl, rfl, rfl⟩
      conv => whnf
      refine branchI (fun h3 => ?_) (fun h3 => ?_)
      · have h3 : decide ((i : Int) < ((0 + kf : Nat) : Int)) = true := h3
        have h3 := of_decide_eq_true h3
        obtain ⟨r0, r1, r2⟩ := hl i (by omega)
        conv => whnf
        refine branchT (guardI (a := (i : Int)) (n := 0 + kf) ⟨by omega, by omega⟩) ?_
        conv => whnf
        refine branchT (fits_small (n := 0 + kf + i + 1) (by omega)) ?_
        conv => whnf
        have e0 : w64 (gi (0 + i) 0 + (0 + kp : Nat)) = sndF (0 + kp) (0 + kf) F (0 + kf + i) 0 := by rw [Nat.zero_add i, r0, sndF_at]
        have e1 : w64 (gi (0 + i) 1 + (0 + kp : Nat)) = sndF (0 + kp) (0 + kf) F (0 + kf + i) 1 := by rw [Nat.zero_add i, r1, sndF_at]
        have e2 : w64 (gi (0 + i) 2 + (0 + kp : Nat)) = sndF (0 + kp) (0 + kf) F (0 + kf + i) 2 := by rw [Nat.zero_add i, r2, sndF_at]
        refine ⟨?_, ?_⟩
        · conv => whnf
          refine ⟨rfl, ⟨false, i + 1, ?gia0, ?gba0, ?gsa0, gi, gb, gs⟩, [37, 34], ?inva0, ?mua0, rfl, ?lsa0⟩
          case lsa0 =>
            repeat' constructor
            all_goals first | exact rfl | exact w64_nat (by dsimp only; omega) | skip
          case mua0 => show 0 + kf - (i + 1) < 0 + kf - i; omega
          case inva0 =>
            exact ⟨by show i + 1 ≤ 0 + kf; omega, push3 (A := sndF (0 + kp) (0 + kf) F) (k := 0 + kf + i) hg e0 e1 e2, hl⟩
        · conv => whnf
          repeat (first | (refine Or.inl ⟨by dsimp only; omega, ?_⟩; conv => whnf) | (refine Or.inr ?_; conv => whnf))
          refine ⟨rfl, ⟨true, i + 1, ?gia1, ?gba1, ?gsa1, ho, hb, hs⟩, [37], ?inva1, ?mua1, rfl, ?lsa1⟩
          case lsa1 =>
            repeat' constructor
            all_goals first | exact rfl | exact w64_nat (by dsimp only; omega) | skip
          case mua1 => show 0 + kf - (i + 1) < 0 + kf - i; omega
          case inva1 =>
            exact ⟨by show i + 1 ≤ 0 + kf; omega, push3 (A := sndF (0 + kp) (0 + kf) F) (k := 0 + kf + i) hg e0 e1 e2, hh⟩
      · have h3 : decide ((i : Int) < ((0 + kf : Nat) : Int)) = false := h3
        have h3 := of_decide_eq_false h3
        obtain rfl : i = 0 + kf := by omega
        conv => whnf
        refine loop_inv Tryz.e2ok 300 (fun s : BL => s.i ≤ 0 + kp ∧ (∀ j, j < 0 + kp + s.i → s.gi j 0 = sndP (0 + kp) P j 0 ∧ s.gi j 1 = sndP (0 + kp) P j 1 ∧ s.gi j 2 = sndP (0 + kp) P j 2) ∧ ∀ j, j < 0 + kp → s.ho j 0 = P j 0 ∧ s.ho j 1 = P j 1 ∧ s.ho j 2 = P j 2) (fun s => 0 + kp - s.i)
          (fun s => slots [(4, .ptr 2 0 0), (5, .ptr 22 0 0), (204, match s.b with | true => .sl 35 3 0 (0 + kp) (0 + kp) | false => .sl 36 3 0 (0 + kp) (0 + kp)), (205, i64 (0 + kp : Nat)), (206, i64 s.i)] 0 305)
          (fun s => .dead :: .dead :: .fix 24 [.nilSl, .nilSl] :: .dead :: .dead :: .dead :: .dead :: .dead :: .dead :: .dead :: .dead :: .dead :: .dead :: .dead :: .dead :: .dead :: .dead :: .dead :: .dead :: .dead :: .dead :: .dead :: .fix 24 [.sl 35 3 0 (0 + kp + s.i) (0 + kp + s.i), .sl 34 3 0 (0 + kf + (0 + kf)) (0 + kf + (0 + kf))] :: .dead :: .dead :: .dead :: .dead :: .dead :: .dead :: .dead :: .dead :: .dead :: .dead :: .dead :: .arr 41 sh3 gi gb gs :: .arr 41 sh3 s.gi s.gb s.gs :: (match s.b with | true => [] | false => [.arr 41 sh3 s.ho s.hb s.hs]))
          ⟨true, 0, ?gi0q835, ?gb0q835, ?gs0q835, P, fun _ _ => false, fun _ _ => []⟩ [11] ?i0q835 ?l0q835 rfl ?_
        case l0q835 =>
          repeat' constructor
          all_goals exact rfl
        case i0q835 =>
          refine ⟨Nat.zero_le _, fun j hj => ?_, fun j _ => ⟨rfl, rfl, rfl⟩⟩
          have hj : j < 0 + kp := hj
          have e : ∀ c, sndP (0 + kp) P j c = P (0 + j) c := fun c => by rw [sndP_lt hj, Nat.zero_add]
          rw [e, e, e]
          exact ⟨rfl, rfl, rfl⟩
        rintro ⟨b2, i, gi2, gb2, gs2, ho2, hb2, hs2⟩ ⟨hi2, hg2, hh2⟩
        cases b2 with
        | true =>
          have hi2 : i ≤ 0 + kp := hi2
          have hg2 : ∀ j, j < 0 + kp + i → gi2 j 0 = sndP (0 + kp) P j 0 ∧ gi2 j 1 = sndP (0 + kp) P j 1 ∧ gi2 j 2 = sndP (0 + kp) P j 2 := hg2
          have hh2 : ∀ j, j < 0 + kp → ho2 j 0 = P j 0 ∧ ho2 j 1 = P j 1 ∧ ho2 j 2 = P j 2 := hh2
          have hl2 : ∀ j, j < 0 + kp → gi2 j 0 = P j 0 ∧ gi2 j 1 = P j 1 ∧ gi2 j 2 = P j 2 := fun j hj => by
            obtain ⟨a, b, c⟩ := hg2 j (by omega)
            rw [a, b, c, sndP_lt hj, sndP_lt hj, sndP_lt hj]
            exact ⟨rfl, rfl, rfl⟩
          conv => whnf
          refine branchI (fun h3 => ?_) (fun h3 => ?_)
          · have h3 : decide ((i : Int) < ((0 + kp : Nat) : Int)) = true := h3
            have h3 := of_decide_eq_true h3
            obtain ⟨r0, r1, r2⟩ := hl2 i (by omega)
            conv => whnf
            refine branchT (guardI (a := (i : Int)) (n := 0 + kp) ⟨by omega, by omega⟩) ?_
            conv => whnf
            refine branchT (fits_small (n := 0 + kp + i + 1) (by omega)) ?_
            conv => whnf
            have e0 : w64 (gi2 (0 + i) 0 + 5000) = sndP (0 + kp) P (0 + kp + i) 0 := by rw [Nat.zero_add i, r0, sndP_at0]
            have e1 : gi2 (0 + i) 1 = sndP (0 + kp) P (0 + kp + i) 1 := by rw [Nat.zero_add i, r1, sndP_at (by decide)]
            have e2 : gi2 (0 + i) 2 = sndP (0 + kp) P (0 + kp + i) 2 := by rw [Nat.zero_add i, r2, sndP_at (by decide)]
            refine ⟨?_, ?_⟩
            · conv => whnf
              refine ⟨rfl, ⟨false, i + 1, ?gip835a0, ?gbp835a0, ?gsp835a0, gi2, gb2, gs2⟩, [38, 35], ?invp835a0, ?mup835a0, rfl, ?lsp835a0⟩
              case lsp835a0 =>
                repeat' constructor
                all_goals first | exact rfl | exact w64_nat (by dsimp only; omega) | skip
              case mup835a0 => show 0 + kp - (i + 1) < 0 + kp - i; omega
              case invp835a0 =>
                exact ⟨by show i + 1 ≤ 0 + kp; omega, push3 (A := sndP (0 + kp) P) (k := 0 + kp + i) hg2 e0 e1 e2, hl2⟩
            · conv => whnf
              repeat (first | (refine Or.inl ⟨by dsimp only; omega, ?_⟩; conv => whnf) | (refine Or.inr ?_; conv => whnf))
              refine ⟨rfl, ⟨true, i + 1, ?gip835a1, ?gbp835a1, ?gsp835a1, ho2, hb2, hs2⟩, [38], ?invp835a1, ?mup835a1, rfl, ?lsp835a1⟩
              case lsp835a1 =>
                repeat' constructor
                all_goals first | exact rfl | exact w64_nat (by dsimp only; omega) | skip
              case mup835a1 => show 0 + kp - (i + 1) < 0 + kp - i; omega
              case invp835a1 =>
                exact ⟨by show i + 1 ≤ 0 + kp; omega, push3 (A := sndP (0 + kp) P) (k := 0 + kp + i) hg2 e0 e1 e2, hh2⟩
          · have h3 : decide ((i : Int) < ((0 + kp : Nat) : Int)) = false := h3
            have h3 := of_decide_eq_false h3
            obtain rfl : i = 0 + kp := by omega
            conv => whnf
            rw [leaf 8 x8, zfun, zfun]
            refine RetSub.of (.agg (.cons (SubV.ro fun j hj => ?_) (.cons (SubV.ro fun j hj => ?_) .nil)))
            · obtain ⟨q0, q1, q2⟩ := hg2 j hj
              show [i64 (gi2 (0 + j) 0), i64 (gi2 (0 + j) 1), i64 (gi2 (0 + j) 2)] = [i64 (sndP (0 + kp) P j 0), i64 (sndP (0 + kp) P j 1), i64 (sndP (0 + kp) P j 2)]
              rw [Nat.zero_add, q0, q1, q2]
            · obtain ⟨q0, q1, q2⟩ := hg j hj
              show [i64 (gi (0 + j) 0), i64 (gi (0 + j) 1), i64 (gi (0 + j) 2)] = [i64 (sndF (0 + kp) (0 + kf) F j 0), i64 (sndF (0 + kp) (0 + kf) F j 1), i64 (sndF (0 + kp) (0 + kf) F j 2)]
              rw [Nat.zero_add, q0, q1, q2]
        | false =>
          have hi2 : i ≤ 0 + kp := hi2
          have hg2 : ∀ j, j < 0 + kp + i → gi2 j 0 = sndP (0 + kp) P j 0 ∧ gi2 j 1 = sndP (0 + kp) P j 1 ∧ gi2 j 2 = sndP (0 + kp) P j 2 := hg2
          have hh2 : ∀ j, j < 0 + kp → ho2 j 0 = P j 0 ∧ ho2 j 1 = P j 1 ∧ ho2 j 2 = P j 2 := hh2
          have hl2 : ∀ j, j < 0 + kp → gi2 j 0 = P j 0 ∧ gi2 j 1 = P j 1 ∧ gi2 j 2 = P j 2 := fun j hj => by
            obtain ⟨a, b, c⟩ := hg2 j (by omega)
            rw [a, b, c, sndP_lt hj, sndP_lt hj, sndP_lt hj]
            exact ⟨rfl, rfl, rfl⟩
          conv => whnf
          refine branchI (fun h3 => ?_) (fun h3 => ?_)
          · have h3 : decide ((i : Int) < ((0 + kp : Nat) : Int)) = true := h3
            have h3 := of_decide_eq_true h3
            obtain ⟨r0, r1, r2⟩ := hh2 i (by omega)
            conv => whnf
            refine branchT (guardI (a := (i : Int)) (n := 0 + kp) ⟨by omega, by omega⟩) ?_
            conv => whnf
            refine branchT (fits_small (n := 0 + kp + i + 1) (by omega)) ?_
            conv => whnf
            have e0 : w64 (ho2 (0 + i) 0 + 5000) = sndP (0 + kp) P (0 + kp + i) 0 := by rw [Nat.zero_add i, r0, sndP_at0]
            have e1 : ho2 (0 + i) 1 = sndP (0 + kp) P (0 + kp + i) 1 := by rw [Nat.zero_add i, r1, sndP_at (by decide)]
            have e2 : ho2 (0 + i) 2 = sndP (0 + kp) P (0 + kp + i) 2 := by rw [Nat.zero_add i, r2, sndP_at (by decide)]
            refine ⟨?_, ?_⟩
            · conv => whnf
              refine ⟨rfl, ⟨false, i + 1, ?gip835b0, ?gbp835b0, ?gsp835b0, ho2, hb2, hs2⟩, [39, 36], ?invp835b0, ?mup835b0, rfl, ?lsp835b0⟩
              case lsp835b0 =>
                repeat' constructor
                all_goals first | exact rfl | exact w64_nat (by dsimp only; omega) | skip
              case mup835b0 => show 0 + kp - (i + 1) < 0 + kp - i; omega
              case invp835b0 =>
                exact ⟨by show i + 1 ≤ 0 + kp; omega, push3 (A := sndP (0 + kp) P) (k := 0 + kp + i) hg2 e0 e1 e2, hh2⟩
            · conv => whnf
              repeat (first | (refine Or.inl ⟨by dsimp only; omega, ?_⟩; conv => whnf) | (refine Or.inr ?_; conv => whnf))
              refine ⟨rfl, ⟨false, i + 1, ?gip835b1, ?gbp835b1, ?gsp835b1, ho2, hb2, hs2⟩, [39, 36], ?invp835b1, ?mup835b1, rfl, ?lsp835b1⟩
              case lsp835b1 =>
                repeat' constructor
                all_goals first | exact rfl | exact w64_nat (by dsimp only; omega) | skip
              case mup835b1 => show 0 + kp - (i + 1) < 0 + kp - i; omega
              case invp835b1 =>
                exact ⟨by show i + 1 ≤ 0 + kp; omega, push3 (A := sndP (0 + kp) P) (k := 0 + kp + i) hg2 e0 e1 e2, hh2⟩
          · have h3 : decide ((i : Int) < ((0 + kp : Nat) : Int)) = false := h3
            have h3 := of_decide_eq_false h3
            obtain rfl : i = 0 + kp := by omega
            conv => whnf
            rw [leaf 8 x8, zfun, zfun]
            refine RetSub.of (.agg (.cons (SubV.ro fun j hj => ?_) (.cons (SubV.ro fun j hj => ?_) .nil)))
            · obtain ⟨q0, q1, q2⟩ := hg2 j hj
              show [i64 (gi2 (0 + j) 0), i64 (gi2 (0 + j) 1), i64 (gi2 (0 + j) 2)] = [i64 (sndP (0 + kp) P j 0), i64 (sndP (0 + kp) P j 1), i64 (sndP (0 + kp) P j 2)]
              rw [Nat.zero_add, q0, q1, q2]
            · obtain ⟨q0, q1, q2⟩ := hg j hj
              show [i64 (gi (0 + j) 0), i64 (gi (0 + j) 1), i64 (gi (0 + j) 2)] = [i64 (sndF (0 + kp) (0 + kf) F j 0), i64 (sndF (0 + kp) (0 + kf) F j 1), i64 (sndF (0 + kp) (0 + kf) F j 2)]
              rw [Nat.zero_add, q0, q1, q2]
    | false =>
      have hi : i ≤ 0 + kf := hi
      have hg : ∀ j, j < 0 + kf + i → gi j 0 = sndF (0 + kp) (0 + kf) F j 0 ∧ gi j 1 = sndF (0 + kp) (0 + kf) F j 1 ∧ gi j 2 = sndF (0 + kp) (0 + kf) F j 2 := hg
      have hh : ∀ j, j < 0 + kf → ho j 0 = F j 0 ∧ ho j 1 = F j 1 ∧ ho j 2 = F j 2 := hh
      have hl : ∀ j, j < 0 + kf → gi j 0 = F j 0 ∧ gi j 1 = F j 1 ∧ gi j 2 = F j 2 := fun j hj => by
        obtain ⟨a, b, c⟩ := hg j (by omega)
        rw [a, b, c, sndF_lt hj, sndF_lt hj, sndF_lt hj]
        exact ⟨rfl, rfl, rfl⟩
      conv => whnf
      refine branchI (fun h3 => ?_) (fun h3 => ?_)
      · have h3 : decide ((i : Int) < ((0 + kf : Nat) : Int)) = true := h3
        have h3 := of_decide_eq_true h3
        obtain ⟨r0, r1, r2⟩ := hh i (by omega)
        conv => whnf
        refine branchT (guardI (a := (i : Int)) (n := 0 + kf) ⟨by omega, by omega⟩) ?_
        conv => whnf
        refine branchT (fits_small (n := 0 + kf + i + 1) (by omega)) ?_
        conv => whnf
        have e0 : w64 (ho (0 + i) 0 + (0 + kp : Nat)) = sndF (0 + kp) (0 + kf) F (0 + kf + i) 0 := by rw [Nat.zero_add i, r0, sndF_at]
        have e1 : w64 (ho (0 + i) 1 + (0 + kp : Nat)) = sndF (0 + kp) (0 + kf) F (0 + kf + i) 1 := by rw [Nat.zero_add i, r1, sndF_at]
        have e2 : w64 (ho (0 + i) 2 + (0 + kp : Nat)) = sndF (0 + kp) (0 + kf) F (0 + kf + i) 2 := by rw [Nat.zero_add i, r2, sndF_at]
        refine ⟨?_, ?_⟩
        · conv => whnf
          refine ⟨rfl, ⟨false, i + 1, ?gib0, ?gbb0, ?gsb0, ho, hb, hs⟩, [38, 35], ?invb0, ?mub0, rfl, ?lsb0⟩
          case lsb0 =>
            repeat' constructor
            all_goals first | exact rfl | exact w64_nat (by dsimp only; omega) | skip
          case mub0 => show 0 + kf - (i + 1) < 0 + kf - i; omega
          case invb0 =>
            exact ⟨by show i + 1 ≤ 0 + kf; omega, push3 (A := sndF (0 + kp) (0 + kf) F) (k := 0 + kf + i) hg e0 e1 e2, hh⟩
        · conv => whnf
          repeat (first | (refine Or.inl ⟨by dsimp only; omega, ?_⟩; conv => whnf) | (refine Or.inr ?_; conv => whnf))
          refine ⟨rfl, ⟨false, i + 1, ?gib1, ?gbb1, ?gsb1, ho, hb, hs⟩, [38, 35], ?invb1, ?mub1, rfl, ?lsb1⟩
          case lsb1 =>
            repeat' constructor
            all_goals first | exact rfl | exact w64_nat (by dsimp only; omega) | skip
          case mub1 => show 0 + kf - (i + 1) < 0 + kf - i; omega
          case invb1 =>
            exact ⟨by show i + 1 ≤ 0 + kf; omega, push3 (A := sndF (0 + kp) (0 + kf) F) (k := 0 + kf + i) hg e0 e1 e2, hh⟩
      · have h3 : decide ((i : Int) < ((0 + kf : Nat) : Int)) = false := h3
        have h3 := of_decide_eq_false h3
        obtain rfl : i = 0 + kf := by omega
        conv => whnf
        refine loop_inv Tryz.e2ok 300 (fun s : BL => s.i ≤ 0 + kp ∧ (∀ j, j < 0 + kp + s.i → s.gi j 0 = sndP (0 + kp) P j 0 ∧ s.gi j 1 = sndP (0 + kp) P j 1 ∧ s.gi j 2 = sndP (0 + kp) P j 2) ∧ ∀ j, j < 0 + kp → s.ho j 0 = P j 0 ∧ s.ho j 1 = P j 1 ∧ s.ho j 2 = P j 2) (fun s => 0 + kp - s.i)
          (fun s => slots [(4, .ptr 2 0 0), (5, .ptr 22 0 0), (204, match s.b with | true => .sl 36 3 0 (0 + kp) (0 + kp) | false => .sl 37 3 0 (0 + kp) (0 + kp)), (205, i64 (0 + kp : Nat)), (206, i64 s.i)] 0 305)
          (fun s => .dead :: .dead :: .fix 24 [.nilSl, .nilSl] :: .dead :: .dead :: .dead :: .dead :: .dead :: .dead :: .dead :: .dead :: .dead :: .dead :: .dead :: .dead :: .dead :: .dead :: .dead :: .dead :: .dead :: .dead :: .dead :: .fix 24 [.sl 36 3 0 (0 + kp + s.i) (0 + kp + s.i), .sl 34 3 0 (0 + kf + (0 + kf)) (0 + kf + (0 + kf))] :: .dead :: .dead :: .dead :: .dead :: .dead :: .dead :: .dead :: .dead :: .dead :: .dead :: .dead :: .arr 41 sh3 gi gb gs :: .dead :: .arr 41 sh3 s.gi s.gb s.gs :: (match s.b with | true => [] | false => [.arr 41 sh3 s.ho s.hb s.hs]))
          ⟨true, 0, ?gi0q836, ?gb0q836, ?gs0q836, P, fun _ _ => false, fun _ _ => []⟩ [11] ?i0q836 ?l0q836 rfl ?_
        case l0q836 =>
          repeat' constructor
          all_goals exact rfl
        case i0q836 =>
          refine ⟨Nat.zero_le _, fun j hj => ?_, fun j _ => ⟨rfl, rfl, rfl⟩⟩
          have hj : j < 0 + kp := hj
          have e : ∀ c, sndP (0 + kp) P j c = P (0 + j) c := fun c => by rw [sndP_lt hj, Nat.zero_add]
          rw [e, e, e]
          exact ⟨rfl, rfl, rfl⟩
        rintro ⟨b2, i, gi2, gb2, gs2, ho2, hb2, hs2⟩ ⟨hi2, hg2, hh2⟩
        cases b2 with
        | true =>
          have hi2 : i ≤ 0 + kp := hi2
          have hg2 : ∀ j, j < 0 + kp + i → gi2 j 0 = sndP (0 + kp) P j 0 ∧ gi2 j 1 = sndP (0 + kp) P j 1 ∧ gi2 j 2 = sndP (0 + kp) P j 2 := hg2
          have hh2 : ∀ j, j < 0 + kp → ho2 j 0 = P j 0 ∧ ho2 j 1 = P j 1 ∧ ho2 j 2 = P j 2 := hh2
          have hl2 : ∀ j, j < 0 + kp → gi2 j 0 = P j 0 ∧ gi2 j 1 = P j 1 ∧ gi2 j 2 = P j 2 := fun j hj => by
            obtain ⟨a, b, c⟩ := hg2 j (by omega)
            rw [a, b, c, sndP_lt hj, sndP_lt hj, sndP_lt hj]
            exact ⟨rfl, rfl, rfl⟩
          conv => whnf
          refine branchI (fun h3 => ?_) (fun h3 => ?_)
          · have h3 : decide ((i : Int) < ((0 + kp : Nat) : Int)) = true := h3
            have h3 := of_decide_eq_true h3
            obtain ⟨r0, r1, r2⟩ := hl2 i (by omega)
            conv => whnf
            refine branchT (guardI (a := (i : Int)) (n := 0 + kp) ⟨by omega, by omega⟩) ?_
            conv => whnf
            refine branchT (fits_small (n := 0 + kp + i + 1) (by omega)) ?_
            conv => whnf
            have e0 : w64 (gi2 (0 + i) 0 + 5000) = sndP (0 + kp) P (0 + kp + i) 0 := by rw [Nat.zero_add i, r0, sndP_at0]
            have e1 : gi2 (0 + i) 1 = sndP (0 + kp) P (0 + kp + i) 1 := by rw [Nat.zero_add i, r1, sndP_at (by decide)]
            have e2 : gi2 (0 + i) 2 = sndP (0 + kp) P (0 + kp + i) 2 := by rw [Nat.zero_add i, r2, sndP_at (by decide)]
            refine ⟨?_, ?_⟩
            · conv => whnf
              refine ⟨rfl, ⟨false, i + 1, ?gip836a0, ?gbp836a0, ?gsp836a0, gi2, gb2, gs2⟩, [39, 36], ?invp836a0, ?mup836a0, rfl, ?lsp836a0⟩
              case lsp836a0 =>
                repeat' constructor
                all_goals first | exact rfl | exact w64_nat (by dsimp only; omega) | skip
              case mup836a0 => show 0 + kp - (i + 1) < 0 + kp - i; omega
              case invp836a0 =>
                exact ⟨by show i + 1 ≤ 0 + kp; omega, push3 (A := sndP (0 + kp) P) (k := 0 + kp + i) hg2 e0 e1 e2, hl2⟩
            · conv => whnf
              repeat (first | (refine Or.inl ⟨by dsimp only; omega, ?_⟩; conv => whnf) | (refine Or.inr ?_; conv => whnf))
              refine ⟨rfl, ⟨true, i + 1, ?gip836a1, ?gbp836a1, ?gsp836a1, ho2, hb2, hs2⟩, [39], ?invp836a1, ?mup836a1, rfl, ?lsp836a1⟩
              case lsp836a1 =>
                repeat' constructor
                all_goals first | exact rfl | exact w64_nat (by dsimp only; omega) | skip
              case mup836a1 => show 0 + kp - (i + 1) < 0 + kp - i; omega
              case invp836a1 =>
                exact ⟨by show i + 1 ≤ 0 + kp; omega, push3 (A := sndP (0 + kp) P) (k := 0 + kp + i) hg2 e0 e1 e2, hh2⟩
          · have h3 : decide ((i : Int) < ((0 + kp : Nat) : Int)) = false := h3
            have h3 := of_decide_eq_false h3
            obtain rfl : i = 0 + kp := by omega
            conv => whnf
            rw [leaf 8 x8, zfun, zfun]
            refine RetSub.of (.agg (.cons (SubV.ro fun j hj => ?_) (.cons (SubV.ro fun j hj => ?_) .nil)))
            · obtain ⟨q0, q1, q2⟩ := hg2 j hj
              show [i64 (gi2 (0 + j) 0), i64 (gi2 (0 + j) 1), i64 (gi2 (0 + j) 2)] = [i64 (sndP (0 + kp) P j 0), i64 (sndP (0 + kp) P j 1), i64 (sndP (0 + kp) P j 2)]
              rw [Nat.zero_add, q0, q1, q2]
            · obtain ⟨q0, q1, q2⟩ := hg j hj
              show [i64 (gi (0 + j) 0), i64 (gi (0 + j) 1), i64 (gi (0 + j) 2)] = [i64 (sndF (0 + kp) (0 + kf) F j 0), i64 (sndF (0 + kp) (0 + kf) F j 1), i64 (sndF (0 + kp) (0 + kf) F j 2)]
              rw [Nat.zero_add, q0, q1, q2]
        | false =>
          have hi2 : i ≤ 0 + kp := hi2
          have hg2 : ∀ j, j < 0 + kp + i → gi2 j 0 = sndP (0 + kp) P j 0 ∧ gi2 j 1 = sndP (0 + kp) P j 1 ∧ gi2 j 2 = sndP (0 + kp) P j 2 := hg2
          have hh2 : ∀ j, j < 0 + kp → ho2 j 0 = P j 0 ∧ ho2 j 1 = P j 1 ∧ ho2 j 2 = P j 2 := hh2
          have hl2 : ∀ j, j < 0 + kp → gi2 j 0 = P j 0 ∧ gi2 j 1 = P j 1 ∧ gi2 j 2 = P j 2 := fun j hj => by
            obtain ⟨a, b, c⟩ := hg2 j (by omega)
            rw [a, b, c, sndP_lt hj, sndP_lt hj, sndP_lt hj]
            exact ⟨rfl, rfl, rfl⟩
          conv => whnf
          refine branchI (fun h3 => ?_) (fun h3 => ?_)
          · have h3 : decide ((i : Int) < ((0 + kp : Nat) : Int)) = true := h3
            have h3 := of_decide_eq_true h3
            obtain ⟨r0, r1, r2⟩ := hh2 i (by omega)
            conv => whnf
            refine branchT (guardI (a := (i : Int)) (n := 0 + kp) ⟨by omega, by omega⟩) ?_
            conv => whnf
            refine branchT (fits_small (n := 0 + kp + i + 1) (by omega)) ?_
            conv => whnf
            have e0 : w64 (ho2 (0 + i) 0 + 5000) = sndP (0 + kp) P (0 + kp + i) 0 := by rw [Nat.zero_add i, r0, sndP_at0]
            have e1 : ho2 (0 + i) 1 = sndP (0 + kp) P (0 + kp + i) 1 := by rw [Nat.zero_add i, r1, sndP_at (by decide)]
            have e2 : ho2 (0 + i) 2 = sndP (0 + kp) P (0 + kp + i) 2 := by rw [Nat.zero_add i, r2, sndP_at (by decide)]
            refine ⟨?_, ?_⟩
            · conv => whnf
              refine ⟨rfl, ⟨false, i + 1, ?gip836b0, ?gbp836b0, ?gsp836b0, ho2, hb2, hs2⟩, [40, 37], ?invp836b0, ?mup836b0, rfl, ?lsp836b0⟩
              case lsp836b0 =>
                repeat' constructor
                all_goals first | exact rfl | exact w64_nat (by dsimp only; omega) | skip
              case mup836b0 => show 0 + kp - (i + 1) < 0 + kp - i; omega
              case invp836b0 =>
                exact ⟨by show i + 1 ≤ 0 + kp; omega, push3 (A := sndP (0 + kp) P) (k := 0 + kp + i) hg2 e0 e1 e2, hh2⟩
            · conv => whnf
              repeat (first | (refine Or.inl ⟨by dsimp only; omega, ?_⟩; conv => whnf) | (refine Or.inr ?_; conv => whnf))
              refine ⟨rfl, ⟨false, i + 1, ?gip836b1, ?gbp836b1, ?gsp836b1, ho2, hb2, hs2⟩, [40, 37], ?invp836b1, ?mup836b1, rfl, ?lsp836b1⟩
              case lsp836b1 =>
                repeat' constructor
                all_goals first | exact rfl | exact w64_nat (by dsimp only; omega) | skip
              case mup836b1 => show 0 + kp - (i + 1) < 0 + kp - i; omega
              case invp836b1 =>
                exact ⟨by show i + 1 ≤ 0 + kp; omega, push3 (A := sndP (0 + kp) P) (k := 0 + kp + i) hg2 e0 e1 e2, hh2⟩
          · have h3 : decide ((i : Int) < ((0 + kp : Nat) : Int)) = false := h3
            have h3 := of_decide_eq_false h3
            obtain rfl : i = 0 + kp := by omega
            conv => whnf
            rw [leaf 8 x8, zfun, zfun]
            refine RetSub.of (.agg (.cons (SubV.ro fun j hj => ?_) (.cons (SubV.ro fun j hj => ?_) .nil)))
            · obtain ⟨q0, q1, q2⟩ := hg2 j hj
              show [i64 (gi2 (0 + j) 0), i64 (gi2 (0 + j) 1), i64 (gi2 (0 + j) 2)] = [i64 (sndP (0 + kp) P j 0), i64 (sndP (0 + kp) P j 1), i64 (sndP (0 + kp) P j 2)]
              rw [Nat.zero_add, q0, q1, q2]
            · obtain ⟨q0, q1, q2⟩ := hg j hj
              show [i64 (gi (0 + j) 0), i64 (gi (0 + j) 1), i64 (gi (0 + j) 2)] = [i64 (sndF (0 + kp) (0 + kf) F j 0), i64 (sndF (0 + kp) (0 + kf) F j 1), i64 (sndF (0 + kp) (0 + kf) F j 2)]
              rw [Nat.zero_add, q0, q1, q2]
  conv => whnf
  refine branchI (fun x9 => ?_) (fun x9 => ?_)
  · have x9 : (w.tmod 12 == 9) = true := x9
    conv => whnf
    refine branchT (sliceG (x := (w64 a).tmod (0 + kp : Nat)) (n := 0 + kp) A0 (by omega)) ?_
    conv => whnf
    rw [leaf 9 x9]
    exact RetSub.of (.agg (.cons (row0 fun j _ => rfl) (.cons (row0 fun j _ => rfl) .nil)))
  conv => whnf
  refine branchI (fun x10 => ?_) (fun x10 => ?_)
  · have x10 : (w.tmod 12 == 10) = true := x10
    conv => whnf
    refine loop_inv Tryz.e2ok 300 (fun s : BL => s.i ≤ 0 + kf ∧ (∀ j, j < 0 + kf + s.i → s.gi j 0 = shrF (0 + kp) (0 + kf) F j 0 ∧ s.gi j 1 = shrF (0 + kp) (0 + kf) F j 1 ∧ s.gi j 2 = shrF (0 + kp) (0 + kf) F j 2) ∧ ∀ j, j < 0 + kf → s.ho j 0 = F j 0 ∧ s.ho j 1 = F j 1 ∧ s.ho j 2 = F j 2) (fun s => 0 + kf - s.i)
      (fun s => slots [(4, .ptr 2 0 0), (5, .ptr 22 0 0), (6, i64 (0 + kp : Nat)), (234, match s.b with | true => .sl 34 3 0 (0 + kf) (0 + kf) | false => .sl 35 3 0 (0 + kf) (0 + kf)), (235, i64 (0 + kf : Nat)), (236, i64 s.i)] 0 305)
      (fun s => .dead :: .dead :: .fix 24 [.nilSl, .nilSl] :: .dead :: .dead :: .dead :: .dead :: .dead :: .dead :: .dead :: .dead :: .arr 41 sh3 (fun i c => cInt (nthV [i64 (P (0 + i) 0), i64 (P (0 + i) 1), i64 (P (0 + i) 2)] c)) (fun i c => cBool (nthV [i64 (P (0 + i) 0), i64 (P (0 + i) 1), i64 (P (0 + i) 2)] c)) (fun i c => cStr (nthV [i64 (P (0 + i) 0), i64 (P (0 + i) 1), i64 (P (0 + i) 2)] c)) :: .dead :: .dead :: .dead :: .dead :: .dead :: .dead :: .dead :: .dead :: .dead :: .dead :: .fix 24 [.sl 11 3 0 (0 + kp) (0 + kp), .sl 34 3 0 (0 + kf + s.i) (0 + kf + s.i)] :: .dead :: .dead :: .dead :: .dead :: .dead :: .dead :: .dead :: .dead :: .dead :: .dead :: .dead :: .arr 41 sh3 s.gi s.gb s.gs :: (match s.b with | true => [] | false => [.arr 41 sh3 s.ho s.hb s.hs]))
      ⟨true, 0, ?gi0f234, ?gb0f234, ?gs0f234, F, fun _ _ => false, fun _ _ => []⟩ [20] ?i0f234 ?l0f234 rfl ?_
    case l0f234 =>
      repeat' constructor
      all_goals exact rfl
    case i0f234 =>
      refine ⟨Nat.zero_le _, fun j hj => ?_, fun j _ => ⟨rfl, rfl, rfl⟩⟩
      have hj : j < 0 + kf := hj
      have e : ∀ c, shrF (0 + kp) (0 + kf) F j c = F (0 + j) c := fun c => by rw [shrF_lt hj, Nat.zero_add]
      rw [e, e, e]
      exact ⟨rfl, rfl, rfl⟩
    rintro ⟨b, i, gi, gb, gs, ho, hb, hs⟩ ⟨hi, hg, hh⟩
    cases b with
    | true =>
      have hi : i ≤ 0 + kf := hi
      have hg : ∀ j, j < 0 + kf + i → gi j 0 = shrF (0 + kp) (0 + kf) F j 0 ∧ gi j 1 = shrF (0 + kp) (0 + kf) F j 1 ∧ gi j 2 = shrF (0 + kp) (0 + kf) F j 2 := hg
      have hh : ∀ j, j < 0 + kf → ho j 0 = F j 0 ∧ ho j 1 = F j 1 ∧ ho j 2 = F j 2 := hh
      have hl : ∀ j, j < 0 + kf → gi j 0 = F j 0 ∧ gi j 1 = F j 1 ∧ gi j 2 = F j 2 := fun j hj => by
        obtain ⟨a, b, c⟩ := hg j (by omega)
        rw [a, b, c, shrF_lt hj, shrF_lt hj, shrF_lt hj]
        exact ⟨rfl, rfl, rfl⟩
      conv => whnf
      refine branchI (fun h3 => ?_) (fun h3 => ?_)
      · have h3 : decide ((i : Int) < ((0 + kf : Nat) : Int)) = true := h3
        have h3 := of_decide_eq_true h3
        obtain ⟨r0, r1, r2⟩ := hl i (by omega)
        conv => whnf
        refine branchT (guardI (a := (i : Int)) (n := 0 + kf) ⟨by omega, by omega⟩) ?_
        conv => whnf
        refine loop_unroll Tryz.e2ok 200 5 ?_
        conv => whnf
        refine branchI (fun g0 => ?_) (fun g0 => ?_)
        · have g0 : decide (0 < gi (0 + i) 0) = true := g0
          have g0 : 0 < F i 0 := by rw [Nat.zero_add, r0] at g0; exact of_decide_eq_true g0
          conv => whnf
          refine branchI (fun g1 => ?_) (fun g1 => ?_)
          · have g1 : decide (0 < gi (0 + i) 1) = true := g1
            have g1 : 0 < F i 1 := by rw [Nat.zero_add, r1] at g1; exact of_decide_eq_true g1
            conv => whnf
            refine branchI (fun g2 => ?_) (fun g2 => ?_)
            · have g2 : decide (0 < gi (0 + i) 2) = true := g2
              have g2 : 0 < F i 2 := by rw [Nat.zero_add, r2] at g2; exact of_decide_eq_true g2
              conv => whnf
              refine branchT (fits_small (n := 0 + kf + i + 1) (by omega)) ?_
              conv => whnf
              have e0 : w64 (gi (0 + i) 0 + w64 (((0 + kp : Nat) : Int) - 1)) = shrF (0 + kp) (0 + kf) F (0 + kf + i) 0 := by rw [Nat.zero_add i, r0, shrF_pos g0]
              have e1 : w64 (gi (0 + i) 1 + w64 (((0 + kp : Nat) : Int) - 1)) = shrF (0 + kp) (0 + kf) F (0 + kf + i) 1 := by rw [Nat.zero_add i, r1, shrF_pos g1]
              have e2 : w64 (gi (0 + i) 2 + w64 (((0 + kp : Nat) : Int) - 1)) = shrF (0 + kp) (0 + kf) F (0 + kf + i) 2 := by rw [Nat.zero_add i, r2, shrF_pos g2]
              refine ⟨?_, ?_⟩
              · conv => whnf
                refine ⟨rfl, ⟨false, i + 1, ?gisa1110, ?gbsa1110, ?gssa1110, gi, gb, gs⟩, [37, 34], ?invsa1110, ?musa1110, rfl, ?lssa1110⟩
                case lssa1110 =>
                  repeat' constructor
                  all_goals first | exact rfl | exact w64_nat (by dsimp only; omega) | skip
                case musa1110 => show 0 + kf - (i + 1) < 0 + kf - i; omega
                case invsa1110 =>
                  exact ⟨by show i + 1 ≤ 0 + kf; omega, push3 (A := shrF (0 + kp) (0 + kf) F) (k := 0 + kf + i) hg e0 e1 e2, hl⟩
              · conv => whnf
                repeat (first | (refine Or.inl ⟨by dsimp only; omega, ?_⟩; conv => whnf) | (refine Or.inr ?_; conv => whnf))
                refine ⟨rfl, ⟨true, i + 1, ?gisa1111, ?gbsa1111, ?gssa1111, ho, hb, hs⟩, [37], ?invsa1111, ?musa1111, rfl, ?lssa1111⟩
                case lssa1111 =>
                  repeat' constructor
                  all_goals first | exact rfl | exact w64_nat (by dsimp only; omega) | skip
                case musa1111 => show 0 + kf - (i + 1) < 0 + kf - i; omega
                case invsa1111 =>
                  exact ⟨by show i + 1 ≤ 0 + kf; omega, push3 (A := shrF (0 + kp) (0 + kf) F) (k := 0 + kf + i) hg e0 e1 e2, hh⟩
            · have g2 : decide (0 < gi (0 + i) 2) = false := g2
              have g2 : ¬ 0 < F i 2 := by rw [Nat.zero_add, r2] at g2; exact of_decide_eq_false g2
              conv => whnf
              refine branchT (fits_small (n := 0 + kf + i + 1) (by omega)) ?_
              conv => whnf
              have e0 : w64 (gi (0 + i) 0 + w64 (((0 + kp : Nat) : Int) - 1)) = shrF (0 + kp) (0 + kf) F (0 + kf + i) 0 := by rw [Nat.zero_add i, r0, shrF_pos g0]
              have e1 : w64 (gi (0 + i) 1 + w64 (((0 + kp : Nat) : Int) - 1)) = shrF (0 + kp) (0 + kf) F (0 + kf + i) 1 := by rw [Nat.zero_add i, r1, shrF_pos g1]
              have e2 : gi (0 + i) 2 = shrF (0 + kp) (0 + kf) F (0 + kf + i) 2 := by rw [Nat.zero_add i, r2, shrF_neg g2]
              refine ⟨?_, ?_⟩
              · conv => whnf
                refine ⟨rfl, ⟨false, i + 1, ?gisa1100, ?gbsa1100, ?gssa1100, gi, gb, gs⟩, [37, 34], ?invsa1100, ?musa1100, rfl, ?lssa1100⟩
                case lssa1100 =>
                  repeat' constructor
                  all_goals first | exact rfl | exact w64_nat (by dsimp only; omega) | skip
                case musa1100 => show 0 + kf - (i + 1) < 0 + kf - i; omega
                case invsa1100 =>
                  exact ⟨by show i + 1 ≤ 0 + kf; omega, push3 (A := shrF (0 + kp) (0 + kf) F) (k := 0 + kf + i) hg e0 e1 e2, hl⟩
              · conv => whnf
                repeat (first | (refine Or.inl ⟨by dsimp only; omega, ?_⟩; conv => whnf) | (refine Or.inr ?_; conv => whnf))
                refine ⟨rfl, ⟨true, i + 1, ?gisa1101, ?gbsa1101, ?gssa1101, ho, hb, hs⟩, [37], ?invsa1101, ?musa1101, rfl, ?lssa1101⟩
                case lssa1101 =>
                  repeat' constructor
                  all_goals first | exact rfl | exact w64_nat (by dsimp only; omega) | skip
                case musa1101 => show 0 + kf - (i + 1) < 0 + kf - i; omega
                case invsa1101 =>
                  exact ⟨by show i + 1 ≤ 0 + kf; omega, push3 (A := shrF (0 + kp) (0 + kf) F) (k := 0 + kf + i) hg e0 e1 e2, hh⟩
          · have g1 : decide (0 < gi (0 + i) 1) = false := g1
            have g1 : ¬ 0 < F i 1 := by rw [Nat.zero_add, r1] at g1; exact of_decide_eq_false g1
            conv => whnf
            refine branchI (fun g2 => ?_) (fun g2 => ?_)
            · have g2 : decide (0 < gi (0 + i) 2) = true := g2
              have g2 : 0 < F i 2 := by rw [Nat.zero_add, r2] at g2; exact of_decide_eq_true g2
              conv => whnf
              refine branchT (fits_small (n := 0 + kf + i + 1) (by omega)) ?_
              conv => whnf
              have e0 : w64 (gi (0 + i) 0 + w64 (((0 + kp : Nat) : Int) - 1)) = shrF (0 + kp) (0 + kf) F (0 + kf + i) 0 := by rw [Nat.zero_add i, r0, shrF_pos g0]
              have e1 : gi (0 + i) 1 = shrF (0 + kp) (0 + kf) F (0 + kf + i) 1 := by rw [Nat.zero_add i, r1, shrF_neg g1]
              have e2 : w64 (gi (0 + i) 2 + w64 (((0 + kp : Nat) : Int) - 1)) = shrF (0 + kp) (0 + kf) F (0 + kf + i) 2 := by rw [Nat.zero_add i, r2, shrF_pos g2]
              refine ⟨?_, ?_⟩
              · conv => whnf
                refine ⟨rfl, ⟨false, i + 1, ?gisa1010, ?gbsa1010, ?gssa1010, gi, gb, gs⟩, [37, 34], ?invsa1010, ?musa1010, rfl, ?lssa1010⟩
                case lssa1010 =>
                  repeat' constructor
                  all_goals first | exact rfl | exact w64_nat (by dsimp only; omega) | skip
                case musa1010 => show 0 + kf - (i + 1) < 0 + kf - i; omega
                case invsa1010 =>
                  exact ⟨by show i + 1 ≤ 0 + kf; omega, push3 (A := shrF (0 + kp) (0 + kf) F) (k := 0 + kf + i) hg e0 e1 e2, hl⟩
              · conv => whnf
                repeat (first | (refine Or.inl ⟨by dsimp only; omega, ?_⟩; conv => whnf) | (refine Or.inr ?_; conv => whnf))
                refine ⟨rfl, ⟨true, i + 1, ?gisa1011, ?gbsa1011, ?gssa1011, ho, hb, hs⟩, [37], ?invsa1011, ?musa1011, rfl, ?lssa1011⟩
                case lssa1011 =>
                  repeat' constructor
                  all_goals first | exact rfl | exact w64_nat (by dsimp only; omega) | skip
                case musa1011 => show 0 + kf - (i + 1) < 0 + kf - i; omega
                case invsa1011 =>
                  exact ⟨by show i + 1 ≤ 0 + kf; omega, push3 (A := shrF (0 + kp) (0 + kf) F) (k := 0 + kf + i) hg e0 e1 e2, hh⟩
            · have g2 : decide (0 < gi (0 + i) 2) = false := g2
              have g2 : ¬ 0 < F i 2 := by rw [Nat.zero_add, r2] at g2; exact of_decide_eq_false g2
              conv => whnf
              refine branchT (fits_small (n := 0 + kf + i + 1) (by omega)) ?_
              conv => whnf
              have e0 : w64 (gi (0 + i) 0 + w64 (((0 + kp : Nat) : Int) - 1)) = shrF (0 + kp) (0 + kf) F (0 + kf + i) 0 := by rw [Nat.zero_add i, r0, shrF_pos g0]
              have e1 : gi (0 + i) 1 = shrF (0 + kp) (0 + kf) F (0 + kf + i) 1 := by rw [Nat.zero_add i, r1, shrF_neg g1]
              have e2 : gi (0 + i) 2 = shrF (0 + kp) (0 + kf) F (0 + kf + i) 2 := by rw [Nat.zero_add i, r2, shrF_neg g2]
              refine ⟨?_, ?_⟩
              · conv => whnf
                refine ⟨rfl, ⟨false, i + 1, ?gisa1000, ?gbsa1000, ?gssa1000, gi, gb, gs⟩, [37, 34], ?invsa1000, ?musa1000, rfl, ?lssa1000⟩
                case lssa1000 =>
                  repeat' constructor
                  all_goals first | exact rfl | exact w64_nat (by dsimp only; omega) | skip
                case musa1000 => show 0 + kf - (i + 1) < 0 + kf - i; omega
                case invsa1000 =>
                  exact ⟨by show i + 1 ≤ 0 + kf; omega, push3 (A := shrF (0 + kp) (0 + kf) F) (k := 0 + kf + i) hg e0 e1 e2, hl⟩
              · conv => whnf
                repeat (first | (refine Or.inl ⟨by dsimp only; omega, ?_⟩; conv => whnf) | (refine Or.inr ?_; conv => whnf))
                refine ⟨rfl, ⟨true, i + 1, ?gisa1001, ?gbsa1001, ?gssa1001, ho, hb, hs⟩, [37], ?invsa1001, ?musa1001, rfl, ?lssa1001⟩
                case lssa1001 =>
                  repeat' constructor
                  all_goals first | exact rfl | exact w64_nat (by dsimp only; omega) | skip
                case musa1001 => show 0 + kf - (i + 1) < 0 + kf - i; omega
                case invsa1001 =>
                  exact ⟨by show i + 1 ≤ 0 + kf; omega, push3 (A := shrF (0 + kp) (0 + kf) F) (k := 0 + kf + i) hg e0 e1 e2, hh⟩
        · have g0 : decide (0 < gi (0 + i) 0) = false := g0
          have g0 : ¬ 0 < F i 0 := by rw [Nat.zero_add, r0] at g0; exact of_decide_eq_false g0
          conv => whnf
          refine branchI (fun g1 => ?_) (fun g1 => ?_)
          · have g1 : decide (0 < gi (0 + i) 1) = true := g1
            have g1 : 0 < F i 1 := by rw [Nat.zero_add, r1] at g1; exact of_decide_eq_true g1
            conv => whnf
            refine branchI (fun g2 => ?_) (fun g2 => ?_)
            · have g2 : decide (0 < gi (0 + i) 2) = true := g2
              have g2 : 0 < F i 2 := by rw [Nat.zero_add, r2] at g2; exact of_decide_eq_true g2
              conv => whnf
              refine branchT (fits_small (n := 0 + kf + i + 1) (by omega)) ?_
              conv => whnf
              have e0 : gi (0 + i) 0 = shrF (0 + kp) (0 + kf) F (0 + kf + i) 0 := by rw [Nat.zero_add i, r0, shrF_neg g0]
              have e1 : w64 (gi (0 + i) 1 + w64 (((0 + kp : Nat) : Int) - 1)) = shrF (0 + kp) (0 + kf) F (0 + kf + i) 1 := by rw [Nat.zero_add i, r1, shrF_pos g1]
              have e2 : w64 (gi (0 + i) 2 + w64 (((0 + kp : Nat) : Int) - 1)) = shrF (0 + kp) (0 + kf) F (0 + kf + i) 2 := by rw [Nat.zero_add i, r2, shrF_pos g2]
              refine ⟨?_, ?_⟩
              · conv => whnf
                refine ⟨rfl, ⟨false, i + 1, ?gisa0110, ?gbsa0110, ?gssa0110, gi, gb, gs⟩, [37, 34], ?invsa0110, ?musa0110, rfl, ?lssa0110⟩
                case lssa0110 =>
                  repeat' constructor
                  all_goals first | exact rfl | exact w64_nat (by dsimp only; omega) | skip
                case musa0110 => show 0 + kf - (i + 1) < 0 + kf - i; omega
                case invsa0110 =>
                  exact ⟨by show i + 1 ≤ 0 + kf; omega, push3 (A := shrF (0 + kp) (0 + kf) F) (k := 0 + kf + i) hg e0 e1 e2, hl⟩
              · conv => whnf
                repeat (first | (refine Or.inl ⟨by dsimp only; omega, ?_⟩; conv => whnf) | (refine Or.inr ?_; conv => whnf))
                refine ⟨rfl, ⟨true, i + 1, ?gisa0111, ?gbsa0111, ?gssa0111, ho, hb, hs⟩, [37], ?invsa0111, ?musa0111, rfl, ?lssa0111⟩
                case lssa0111 =>
                  repeat' constructor
                  all_goals first | exact rfl | exact w64_nat (by dsimp only; omega) | skip
                case musa0111 => show 0 + kf - (i + 1) < 0 + kf - i; omega
                case invsa0111 =>
                  exact ⟨by show i + 1 ≤ 0 + kf; omega, push3 (A := shrF (0 + kp) (0 + kf) F) (k := 0 + kf + i) hg e0 e1 e2, hh⟩
            · have g2 : decide (0 < gi (0 + i) 2) = false := g2
              have g2 : ¬ 0 < F i 2 := by rw [Nat.zero_add, r2] at g2; exact of_decide_eq_false g2
              conv => whnf
              refine branchT (fits_small (n := 0 + kf + i + 1) (by omega)) ?_
              conv => whnf
              have e0 : gi (0 + i) 0 = shrF (0 + kp) (0 + kf) F (0 + kf + i) 0 := by rw [Nat.zero_add i, r0, shrF_neg g0]
              have e1 : w64 (gi (0 + i) 1 + w64 (((0 + kp : Nat) : Int) - 1)) = shrF (0 + kp) (0 + kf) F (0 + kf + i) 1 := by rw [Nat.zero_add i, r1, shrF_pos g1]
              have e2 : gi (0 + i) 2 = shrF (0 + kp) (0 + kf) F (0 + kf + i) 2 := by rw [Nat.zero_add i, r2, shrF_neg g2]
              refine ⟨?_, ?_⟩
              · conv => whnf
                refine ⟨rfl, ⟨false, i + 1, ?gisa0100, ?gbsa0100, ?gssa0100, gi, gb, gs⟩, [37, 34], ?invsa0100, ?musa0100, rfl, ?lssa0100⟩
                case lssa0100 =>
                  repeat' constructor
                  all_goals first | exact rfl | exact w64_nat (by dsimp only; omega) | skip
                case musa0100 => show 0 + kf - (i + 1) < 0 + kf - i; omega
                case invsa0100 =>
                  exact ⟨by show i + 1 ≤ 0 + kf; omega, push3 (A := shrF (0 + kp) (0 + kf) F) (k := 0 + kf + i) hg e0 e1 e2, hl⟩
              · conv => whnf
                repeat (first | (refine Or.inl ⟨by dsimp only; omega, ?_⟩; conv => whnf) | (refine Or.inr ?_; conv => whnf))
                refine ⟨rfl, ⟨true, i + 1, ?gisa0101, ?gbsa0101, ?gssa0101, ho, hb, hs⟩, [37], ?invsa0101, ?musa0101, rfl, ?lssa0101⟩
                case lssa0101 =>
                  repeat' constructor
                  all_goals first | exact rfl | exact w64_nat (by dsimp only; omega) | skip
                case musa0101 => show 0 + kf - (i + 1) < 0 + kf - i; omega
                case invsa0101 =>
                  exact ⟨by show i + 1 ≤ 0 + kf; omega, push3 (A := shrF (0 + kp) (0 + kf) F) (k := 0 + kf + i) hg e0 e1 e2, hh⟩
          · have g1 : decide (0 < gi (0 + i) 1) = false := g1
            have g1 : ¬ 0 < F i 1 := by rw [Nat.zero_add, r1] at g1; exact of_decide_eq_false g1
            conv => whnf
            refine branchI (fun g2 => ?_) (fun g2 => ?_)
            · have g2 : decide (0 < gi (0 + i) 2) = true := g2
              have g2 : 0 < F i 2 := by rw [Nat.zero_add, r2] at g2; exact of_decide_eq_true g2
              conv => whnf
              refine branchT (fits_small (n := 0 + kf + i + 1) (by omega)) ?_
              conv => whnf
              have e0 : gi (0 + i) 0 = shrF (0 + kp) (0 + kf) F (0 + kf + i) 0 := by rw [Nat.zero_add i, r0, shrF_neg g0]
              have e1 : gi (0 + i) 1 = shrF (0 + kp) (0 + kf) F (0 + kf + i) 1 := by rw [Nat.zero_add i, r1, shrF_neg g1]
              have e2 : w64 (gi (0 + i) 2 + w64 (((0 + kp : Nat) : Int) - 1)) = shrF (0 + kp) (0 + kf) F (0 + kf + i) 2 := by rw [Nat.zero_add i, r2, shrF_pos g2]
              refine ⟨?_, ?_⟩
              · conv => whnf
                refine ⟨rfl, ⟨false, i + 1, ?gisa0010, ?gbsa0010, ?gssa0010, gi, gb, gs⟩, [37, 34], ?invsa0010, ?musa0010, rfl, ?lssa0010⟩
                case lssa0010 =>
                  repeat' constructor
                  all_goals first | exact rfl | exact w64_nat (by dsimp only; omega) | skip
                case musa0010 => show 0 + kf - (i + 1) < 0 + kf - i; omega
                case invsa0010 =>
                  exact ⟨by show i + 1 ≤ 0 + kf; omega, push3 (A := shrF (0 + kp) (0 + kf) F) (k := 0 + kf + i) hg e0 e1 e2, hl⟩
              · conv => whnf
                repeat (first | (refine Or.inl ⟨by dsimp only; omega, ?_⟩; conv => whnf) | (refine Or.inr ?_; conv => whnf))
                refine ⟨rfl, ⟨true, i + 1, ?gisa0011, ?gbsa0011, ?gssa0011, ho, hb, hs⟩, [37], ?invsa0011, ?musa0011, rfl, ?lssa0011⟩
                case lssa0011 =>
                  repeat' constructor
                  all_goals first | exact rfl | exact w64_nat (by dsimp only; omega) | skip
                case musa0011 => show 0 + kf - (i + 1) < 0 + kf - i; omega
                case invsa0011 =>
                  exact ⟨by show i + 1 ≤ 0 + kf; omega, push3 (A := shrF (0 + kp) (0 + kf) F) (k := 0 + kf + i) hg e0 e1 e2, hh⟩
            · have g2 : decide (0 < gi (0 + i) 2) = false := g2
              have g2 : ¬ 0 < F i 2 := by rw [Nat.zero_add, r2] at g2; exact of_decide_eq_false g2
              conv => whnf
              refine branchT (fits_small (n := 0 + kf + i + 1) (by omega)) ?_
              conv => whnf
              have e0 : gi (0 + i) 0 = shrF (0 + kp) (0 + kf) F (0 + kf + i) 0 := by rw [Nat.zero_add i, r0, shrF_neg g0]
              have e1 : gi (0 + i) 1 = shrF (0 + kp) (0 + kf) F (0 + kf + i) 1 := by rw [Nat.zero_add i, r1, shrF_neg g1]
              have e2 : gi (0 + i) 2 = shrF (0 + kp) (0 + kf) F (0 + kf + i) 2 := by rw [Nat.zero_add i, r2, shrF_neg g2]
              refine ⟨?_, ?_⟩
              · conv => whnf
                refine ⟨rfl, ⟨false, i + 1, ?gisa0000, ?gbsa0000, ?gssa0000, gi, gb, gs⟩, [37, 34], ?invsa0000, ?musa0000, rfl, ?lssa0000⟩
                case lssa0000 =>
                  repeat' constructor
                  all_goals first | exact rfl | exact w64_nat (by dsimp only; omega) | skip
                case musa0000 => show 0 + kf - (i + 1) < 0 + kf - i; omega
                case invsa0000 =>
                  exact ⟨by show i + 1 ≤ 0 + kf; omega, push3 (A := shrF (0 + kp) (0 + kf) F) (k := 0 + kf + i) hg e0 e1 e2, hl⟩
              · conv => whnf
                repeat (first | (refine Or.inl ⟨by dsimp only; omega, ?_⟩; conv => whnf) | (refine Or.inr ?_; conv => whnf))
                refine ⟨rfl, ⟨true, i + 1, ?gisa0001, ?gbsa0001, ?gssa0001, ho, hb, hs⟩, [37], ?invsa0001, ?musa0001, rfl, ?lssa0001⟩
                case lssa0001 =>
                  repeat' constructor
                  all_goals first | exact rfl | exact w64_nat (by dsimp only; omega) | skip
                case musa0001 => show 0 + kf - (i + 1) < 0 + kf - i; omega
                case invsa0001 =>
                  exact ⟨by show i + 1 ≤ 0 + kf; omega, push3 (A := shrF (0 + kp) (0 + kf) F) (k := 0 + kf + i) hg e0 e1 e2, hh⟩
      · have h3 : decide ((i : Int) < ((0 + kf : Nat) : Int)) = false := h3
        have h3 := of_decide_eq_false h3
        obtain rfl : i = 0 + kf := by omega
        conv => whnf
        refine branchT (sliceG3 (lo := 1) (hi := ((0 + kp : Nat) : Int)) (n := ((0 + kp : Nat) : Int)) (by omega) (by omega) (Int.le_refl _)) ?_
        conv => whnf
        refine loop_inv Tryz.e2ok 300 (fun s : BL => s.i ≤ 0 + kp - 1 ∧ (∀ j, j < 0 + kp + s.i → s.gi j 0 = shrP (0 + kp) P j 0 ∧ s.gi j 1 = shrP (0 + kp) P j 1 ∧ s.gi j 2 = shrP (0 + kp) P j 2) ∧ ∀ j, j < 0 + kp → s.ho j 0 = P j 0 ∧ s.ho j 1 = P j 1 ∧ s.ho j 2 = P j 2) (fun s => 0 + kp - 1 - s.i)
          (fun s => slots [(4, .ptr 2 0 0), (5, .ptr 22 0 0), (264, match s.b with | true => .sl 35 3 1 (0 + kp - 1) (0 + kp - 1) | false => .sl 36 3 1 (0 + kp - 1) (0 + kp - 1)), (265, i64 (0 + kp - 1 : Nat)), (266, i64 s.i)] 0 305)
          (fun s => .dead :: .dead :: .fix 24 [.nilSl, .nilSl] :: .dead :: .dead :: .dead :: .dead :: .dead :: .dead :: .dead :: .dead :: .dead :: .dead :: .dead :: .dead :: .dead :: .dead :: .dead :: .dead :: .dead :: .dead :: .dead :: .fix 24 [.sl 35 3 0 (0 + kp + s.i) (0 + kp + s.i), .sl 34 3 0 (0 + kf + (0 + kf)) (0 + kf + (0 + kf))] :: .dead :: .dead :: .dead :: .dead :: .dead :: .dead :: .dead :: .dead :: .dead :: .dead :: .dead :: .arr 41 sh3 gi gb gs :: .arr 41 sh3 s.gi s.gb s.gs :: (match s.b with | true => [] | false => [.arr 41 sh3 s.ho s.hb s.hs]))
          ⟨true, 0, ?gi0q1035, ?gb0q1035, ?gs0q1035, P, fun _ _ => false, fun _ _ => []⟩ [11] ?i0q1035 ?l0q1035 rfl ?_
        case l0q1035 =>
          repeat' constructor
          all_goals exact rfl
        case i0q1035 =>
          refine ⟨Nat.zero_le _, fun j hj => ?_, fun j _ => ⟨rfl, rfl, rfl⟩⟩
          have hj : j < 0 + kp := hj
          have e : ∀ c, shrP (0 + kp) P j c = P (0 + j) c := fun c => by rw [shrP_lt hj, Nat.zero_add]
          rw [e, e, e]
          exact ⟨rfl, rfl, rfl⟩
        rintro ⟨b2, i, gi2, gb2, gs2, ho2, hb2, hs2⟩ ⟨hi2, hg2, hh2⟩
        cases b2 with
        | true =>
          have hi2 : i ≤ 0 + kp - 1 := hi2
          have hg2 : ∀ j, j < 0 + kp + i → gi2 j 0 = shrP (0 + kp) P j 0 ∧ gi2 j 1 = shrP (0 + kp) P j 1 ∧ gi2 j 2 = shrP (0 + kp) P j 2 := hg2
          have hh2 : ∀ j, j < 0 + kp → ho2 j 0 = P j 0 ∧ ho2 j 1 = P j 1 ∧ ho2 j 2 = P j 2 := hh2
          have hl2 : ∀ j, j < 0 + kp → gi2 j 0 = P j 0 ∧ gi2 j 1 = P j 1 ∧ gi2 j 2 = P j 2 := fun j hj => by
            obtain ⟨a, b, c⟩ := hg2 j (by omega)
            rw [a, b, c, shrP_lt hj, shrP_lt hj, shrP_lt hj]
            exact ⟨rfl, rfl, rfl⟩
          conv => whnf
          refine branchI (fun h3 => ?_) (fun h3 => ?_)
          · have h3 : decide ((i : Int) < ((0 + kp - 1 : Nat) : Int)) = true := h3
            have h3 := of_decide_eq_true h3
            obtain ⟨r0, r1, r2⟩ := hl2 (1 + i) (by omega)
            obtain ⟨z0, z1, z2⟩ := hl2 0 (by omega)
            conv => whnf
            refine branchT (guardI (a := (i : Int)) (n := 0 + kp - 1) ⟨by omega, by omega⟩) ?_
            conv => whnf
            refine branchT (guardI (a := 0) (n := 0 + kp + i) ⟨by omega, by omega⟩) ?_
            conv => whnf
            refine branchT (guardI (a := 0) (n := 0 + kp + i) ⟨by omega, by omega⟩) ?_
            conv => whnf
            refine branchT (guardI (a := 0) (n := 0 + kp + i) ⟨by omega, by omega⟩) ?_
            conv => whnf
            refine branchT (fits_small (n := 0 + kp + i + 1) (by omega)) ?_
            conv => whnf
            have e0 : w64 (w64 (2 * gi2 0 0) - gi2 (1 + i) 0) = shrP (0 + kp) P (0 + kp + i) 0 := by rw [z0, r0, shrP_at, Nat.add_comm 1 i]
            have e1 : w64 (w64 (2 * gi2 0 1) - gi2 (1 + i) 1) = shrP (0 + kp) P (0 + kp + i) 1 := by rw [z1, r1, shrP_at, Nat.add_comm 1 i]
            have e2 : w64 (w64 (2 * gi2 0 2) - gi2 (1 + i) 2) = shrP (0 + kp) P (0 + kp + i) 2 := by rw [z2, r2, shrP_at, Nat.add_comm 1 i]
            refine ⟨?_, ?_⟩
            · conv => whnf
              refine ⟨rfl, ⟨false, i + 1, ?gip1035a0, ?gbp1035a0, ?gsp1035a0, gi2, gb2, gs2⟩, [68, 35], ?invp1035a0, ?mup1035a0, rfl, ?lsp1035a0⟩
              case lsp1035a0 =>
                repeat' constructor
                all_goals first | exact rfl | exact w64_nat (by dsimp only; omega) | skip
              case mup1035a0 => show 0 + kp - 1 - (i + 1) < 0 + kp - 1 - i; omega
              case invp1035a0 =>
                exact ⟨by show i + 1 ≤ 0 + kp - 1; omega, push3 (A := shrP (0 + kp) P) (k := 0 + kp + i) hg2 e0 e1 e2, hl2⟩
            · conv => whnf
              repeat (first | (refine Or.inl ⟨by dsimp only; omega, ?_⟩; conv => whnf) | (refine Or.inr ?_; conv => whnf))
              refine ⟨rfl, ⟨true, i + 1, ?gip1035a1, ?gbp1035a1, ?gsp1035a1, ho2, hb2, hs2⟩, [68], ?invp1035a1, ?mup1035a1, rfl, ?lsp1035a1⟩
              case lsp1035a1 =>
                repeat' constructor
                all_goals first | exact rfl | exact w64_nat (by dsimp only; omega) | skip
              case mup1035a1 => show 0 + kp - 1 - (i + 1) < 0 + kp - 1 - i; omega
              case invp1035a1 =>
                exact ⟨by show i + 1 ≤ 0 + kp - 1; omega, push3 (A := shrP (0 + kp) P) (k := 0 + kp + i) hg2 e0 e1 e2, hh2⟩
          · have h3 : decide ((i : Int) < ((0 + kp - 1 : Nat) : Int)) = false := h3
            have h3 := of_decide_eq_false h3
            obtain rfl : i = 0 + kp - 1 := by omega
            conv => whnf
            rw [leaf 10 x10, zfun, zfun]
            refine RetSub.of (.agg (.cons (SubV.ro fun j hj => ?_) (.cons (SubV.ro fun j hj => ?_) .nil)))
            · obtain ⟨q0, q1, q2⟩ := hg2 j hj
              show [i64 (gi2 (0 + j) 0), i64 (gi2 (0 + j) 1), i64 (gi2 (0 + j) 2)] = [i64 (shrP (0 + kp) P j 0), i64 (shrP (0 + kp) P j 1), i64 (shrP (0 + kp) P j 2)]
              rw [Nat.zero_add, q0, q1, q2]
            · obtain ⟨q0, q1, q2⟩ := hg j hj
              show [i64 (gi (0 + j) 0), i64 (gi (0 + j) 1), i64 (gi (0 + j) 2)] = [i64 (shrF (0 + kp) (0 + kf) F j 0), i64 (shrF (0 + kp) (0 + kf) F j 1), i64 (shrF (0 + kp) (0 + kf) F j 2)]
              rw [Nat.zero_add, q0, q1, q2]
        | false =>
          have hi2 : i ≤ 0 + kp - 1 := hi2
          have hg2 : ∀ j, j < 0 + kp + i → gi2 j 0 = shrP (0 + kp) P j 0 ∧ gi2 j 1 = shrP (0 + kp) P j 1 ∧ gi2 j 2 = shrP (0 + kp) P j 2 := hg2
          have hh2 : ∀ j, j < 0 + kp → ho2 j 0 = P j 0 ∧ ho2 j 1 = P j 1 ∧ ho2 j 2 = P j 2 := hh2
          have hl2 : ∀ j, j < 0 + kp → gi2 j 0 = P j 0 ∧ gi2 j 1 = P j 1 ∧ gi2 j 2 = P j 2 := fun j hj => by
            obtain ⟨a, b, c⟩ := hg2 j (by omega)
            rw [a, b, c, shrP_lt hj, shrP_lt hj, shrP_lt hj]
            exact ⟨rfl, rfl, rfl⟩
          conv => whnf
          refine branchI (fun h3 => ?_) (fun h3 => ?_)
          · have h3 : decide ((i : Int) < ((0 + kp - 1 : Nat) : Int)) = true := h3
            have h3 := of_decide_eq_true h3
            obtain ⟨r0, r1, r2⟩ := hh2 (1 + i) (by omega)
            obtain ⟨z0, z1, z2⟩ := hl2 0 (by omega)
            conv => whnf
            refine branchT (guardI (a := (i : Int)) (n := 0 + kp - 1) ⟨by omega, by omega⟩) ?_
            conv => whnf
            refine branchT (guardI (a := 0) (n := 0 + kp + i) ⟨by omega, by omega⟩) ?_
            conv => whnf
            refine branchT (guardI (a := 0) (n := 0 + kp + i) ⟨by omega, by omega⟩) ?_
            conv => whnf
            refine branchT (guardI (a := 0) (n := 0 + kp + i) ⟨by omega, by omega⟩) ?_
            conv => whnf
            refine branchT (fits_small (n := 0 + kp + i + 1) (by omega)) ?_
            conv => whnf
            have e0 : w64 (w64 (2 * gi2 0 0) - ho2 (1 + i) 0) = shrP (0 + kp) P (0 + kp + i) 0 := by rw [z0, r0, shrP_at, Nat.add_comm 1 i]
            have e1 : w64 (w64 (2 * gi2 0 1) - ho2 (1 + i) 1) = shrP (0 + kp) P (0 + kp + i) 1 := by rw [z1, r1, shrP_at, Nat.add_comm 1 i]
            have e2 : w64 (w64 (2 * gi2 0 2) - ho2 (1 + i) 2) = shrP (0 + kp) P (0 + kp + i) 2 := by rw [z2, r2, shrP_at, Nat.add_comm 1 i]
            refine ⟨?_, ?_⟩
            · conv => whnf
              refine ⟨rfl, ⟨false, i + 1, ?gip1035b0, ?gbp1035b0, ?gsp1035b0, ho2, hb2, hs2⟩, [69, 36], ?invp1035b0, ?mup1035b0, rfl, ?lsp1035b0⟩
              case lsp1035b0 =>
                repeat' constructor
                all_goals first | exact rfl | exact w64_nat (by dsimp only; omega) | skip
              case mup1035b0 => show 0 + kp - 1 - (i + 1) < 0 + kp - 1 - i; omega
              case invp1035b0 =>
                exact ⟨by show i + 1 ≤ 0 + kp - 1; omega, push3 (A := shrP (0 + kp) P) (k := 0 + kp + i) hg2 e0 e1 e2, hh2⟩
            · conv => whnf
              repeat (first | (refine Or.inl ⟨by dsimp only; omega, ?_⟩; conv => whnf) | (refine Or.inr ?_; conv => whnf))
              refine ⟨rfl, ⟨false, i + 1, ?gip1035b1, ?gbp1035b1, ?gsp1035b1, ho2, hb2, hs2⟩, [69, 36], ?invp1035b1, ?mup1035b1, rfl, ?lsp1035b1⟩
              case lsp1035b1 =>
                repeat' constructor
                all_goals first | exact rfl | exact w64_nat (by dsimp only; omega) | skip
              case mup1035b1 => show 0 + kp - 1 - (i + 1) < 0 + kp - 1 - i; omega
              case invp1035b1 =>
                exact ⟨by show i + 1 ≤ 0 + kp - 1; omega, push3 (A := shrP (0 + kp) P) (k := 0 + kp + i) hg2 e0 e1 e2, hh2⟩
          · have h3 : decide ((i : Int) < ((0 + kp - 1 : Nat) : Int)) = false := h3
            have h3 := of_decide_eq_false h3
            obtain rfl : i = 0 + kp - 1 := by omega
            conv => whnf
            rw [leaf 10 x10, zfun, zfun]
            refine RetSub.of (.agg (.cons (SubV.ro fun j hj => ?_) (.cons (SubV.ro fun j hj => ?_) .nil)))
            · obtain ⟨q0, q1, q2⟩ := hg2 j hj
              show [i64 (gi2 (0 + j) 0), i64 (gi2 (0 + j) 1), i64 (gi2 (0 + j) 2)] = [i64 (shrP (0 + kp) P j 0), i64 (shrP (0 + kp) P j 1), i64 (shrP (0 + kp) P j 2)]
              rw [Nat.zero_add, q0, q1, q2]
            · obtain ⟨q0, q1, q2⟩ := hg j hj
              show [i64 (gi (0 + j) 0), i64 (gi (0 + j) 1), i64 (gi (0 + j) 2)] = [i64 (shrF (0 + kp) (0 + kf) F j 0), i64 (shrF (0 + kp) (0 + kf) F j 1), i64 (shrF (0 + kp) (0 + kf) F j 2)]
              rw [Nat.zero_add, q0, q1, q2]
    | false =>
      have hi : i ≤ 0 + kf := hi
      have hg : ∀ j, j < 0 + kf + i → gi j 0 = shrF (0 + kp) (0 + kf) F j 0 ∧ gi j 1 = shrF (0 + kp) (0 + kf) F j 1 ∧ gi j 2 = shrF (0 + kp) (0 + kf) F j 2 := hg
      have hh : ∀ j, j < 0 + kf → ho j 0 = F j 0 ∧ ho j 1 = F j 1 ∧ ho j 2 = F j 2 := hh
      have hl : ∀ j, j < 0 + kf → gi j 0 = F j 0 ∧ gi j 1 = F j 1 ∧ gi j 2 = F j 2 := fun j hj => by
        obtain ⟨a, b, c⟩ := hg j (by omega)
        rw [a, b, c, shrF_lt hj, shrF_lt hj, shrF_lt hj]
        exact ⟨rfl, rfl, rfl⟩
      conv => whnf
      refine branchI (fun h3 => ?_) (fun h3 => ?_)
      · have h3 : decide ((i : Int) < ((0 + kf : Nat) : Int)) = true := h3
        have h3 := of_decide_eq_true h3
        obtain ⟨r0, r1, r2⟩ := hh i (by omega)
        conv => whnf
        refine branchT (guardI (a := (i : Int)) (n := 0 + kf) ⟨by omega, by omega⟩) ?_
        conv => whnf
        refine loop_unroll Tryz.e2ok 200 5 ?_
        conv => whnf
        refine branchI (fun g0 => ?_) (fun g0 => ?_)
        · have g0 : decide (0 < ho (0 + i) 0) = true := g0
          have g0 : 0 < F i 0 := by rw [Nat.zero_add, r0] at g0; exact of_decide_eq_true g0
          conv => whnf
          refine branchI (fun g1 => ?_) (fun g1 => ?_)
          · have g1 : decide (0 < ho (0 + i) 1) = true := g1
            have g1 : 0 < F i 1 := by rw [Nat.zero_add, r1] at g1; exact of_decide_eq_true g1
            conv => whnf
            refine branchI (fun g2 => ?_) (fun g2 => ?_)
            · have g2 : decide (0 < ho (0 + i) 2) = true := g2
              have g2 : 0 < F i 2 := by rw [Nat.zero_add, r2] at g2; exact of_decide_eq_true g2
              conv => whnf
              refine branchT (fits_small (n := 0 + kf + i + 1) (by omega)) ?_
              conv => whnf
              have e0 : w64 (ho (0 + i) 0 + w64 (((0 + kp : Nat) : Int) - 1)) = shrF (0 + kp) (0 + kf) F (0 + kf + i) 0 := by rw [Nat.zero_add i, r0, shrF_pos g0]
              have e1 : w64 (ho (0 + i) 1 + w64 (((0 + kp : Nat) : Int) - 1)) = shrF (0 + kp) (0 + kf) F (0 + kf + i) 1 := by rw [Nat.zero_add i, r1, shrF_pos g1]
              have e2 : w64 (ho (0 + i) 2 + w64 (((0 + kp : Nat) : Int) - 1)) = shrF (0 + kp) (0 + kf) F (0 + kf + i) 2 := by rw [Nat.zero_add i, r2, shrF_pos g2]
              refine ⟨?_, ?_⟩
              · conv => whnf
                refine ⟨rfl, ⟨false, i + 1, ?gisb1110, ?gbsb1110, ?gssb1110, ho, hb, hs⟩, [38, 35], ?invsb1110, ?musb1110, rfl, ?lssb1110⟩
                case lssb1110 =>
                  repeat' constructor
                  all_goals first | exact rfl | exact w64_nat (by dsimp only; omega) | skip
                case musb1110 => show 0 + kf - (i + 1) < 0 + kf - i; omega
                case invsb1110 =>
                  exact ⟨by show i + 1 ≤ 0 + kf; omega, push3 (A := shrF (0 + kp) (0 + kf) F) (k := 0 + kf + i) hg e0 e1 e2, hh⟩
              · conv => whnf
                repeat (first | (refine Or.inl ⟨by dsimp only; omega, ?_⟩; conv => whnf) | (refine Or.inr ?_; conv => whnf))
                refine ⟨rfl, ⟨false, i + 1, ?gisb1111, ?gbsb1111, ?gssb1111, ho, hb, hs⟩, [38, 35], ?invsb1111, ?musb1111, rfl, ?lssb1111⟩
                case lssb1111 =>
                  repeat' constructor
                  all_goals first | exact rfl | exact w64_nat (by dsimp only; omega) | skip
                case musb1111 => show 0 + kf - (i + 1) < 0 + kf - i; omega
                case invsb1111 =>
                  exact ⟨by show i + 1 ≤ 0 + kf; omega, push3 (A := shrF (0 + kp) (0 + kf) F) (k := 0 + kf + i) hg e0 e1 e2, hh⟩
            · have g2 : decide (0 < ho (0 + i) 2) = false := g2
              have g2 : ¬ 0 < F i 2 := by rw [Nat.zero_add, r2] at g2; exact of_decide_eq_false g2
              conv => whnf
              refine branchT (fits_small (n := 0 + kf + i + 1) (by omega)) ?_
              conv => whnf
              have e0 : w64 (ho (0 + i) 0 + w64 (((0 + kp : Nat) : Int) - 1)) = shrF (0 + kp) (0 + kf) F (0 + kf + i) 0 := by rw [Nat.zero_add i, r0, shrF_pos g0]
              have e1 : w64 (ho (0 + i) 1 + w64 (((0 + kp : Nat) : Int) - 1)) = shrF (0 + kp) (0 + kf) F (0 + kf + i) 1 := by rw [Nat.zero_add i, r1, shrF_pos g1]
              have e2 : ho (0 + i) 2 = shrF (0 + kp) (0 + kf) F (0 + kf + i) 2 := by rw [Nat.zero_add i, r2, shrF_neg g2]
              refine ⟨?_, ?_⟩
              · conv => whnf
                refine ⟨rfl, ⟨false, i + 1, ?gisb1100, ?gbsb1100, ?gssb1100, ho, hb, hs⟩, [38, 35], ?invsb1100, ?musb1100, rfl, ?lssb1100⟩
                case lssb1100 =>
                  repeat' constructor
                  all_goals first | exact rfl | exact w64_nat (by dsimp only; omega) | skip
                case musb1100 => show 0 + kf - (i + 1) < 0 + kf - i; omega
                case invsb1100 =>
                  exact ⟨by show i + 1 ≤ 0 + kf; omega, push3 (A := shrF (0 + kp) (0 + kf) F) (k := 0 + kf + i) hg e0 e1 e2, hh⟩
              · conv => whnf
                repeat (first | (refine Or.inl ⟨by dsimp only; omega, ?_⟩; conv => whnf) | (refine Or.inr ?_; conv => whnf))
                refine ⟨rfl, ⟨false, i + 1, ?gisb1101, ?gbsb1101, ?gssb1101, ho, hb, hs⟩, [38, 35], ?invsb1101, ?musb1101, rfl, ?lssb1101⟩
                case lssb1101 =>
                  repeat' constructor
                  all_goals first | exact rfl | exact w64_nat (by dsimp only; omega) | skip
                case musb1101 => show 0 + kf - (i + 1) < 0 + kf - i; omega
                case invsb1101 =>
                  exact ⟨by show i + 1 ≤ 0 + kf; omega, push3 (A := shrF (0 + kp) (0 + kf) F) (k := 0 + kf + i) hg e0 e1 e2, hh⟩
          · have g1 : decide (0 < ho (0 + i) 1) = false := g1
            have g1 : ¬ 0 < F i 1 := by rw [Nat.zero_add, r1] at g1; exact of_decide_eq_false g1
            conv => whnf
            refine branchI (fun g2 => ?_) (fun g2 => ?_)
            · have g2 : decide (0 < ho (0 + i) 2) = true := g2
              have g2 : 0 < F i 2 := by rw [Nat.zero_add, r2] at g2; exact of_decide_eq_true g2
              conv => whnf
              refine branchT (fits_small (n := 0 + kf + i + 1) (by omega)) ?_
              conv => whnf
              have e0 : w64 (ho (0 + i) 0 + w64 (((0 + kp : Nat) : Int) - 1)) = shrF (0 + kp) (0 + kf) F (0 + kf + i) 0 := by rw [Nat.zero_add i, r0, shrF_pos g0]
              have e1 : ho (0 + i) 1 = shrF (0 + kp) (0 + kf) F (0 + kf + i) 1 := by rw [Nat.zero_add i, r1, shrF_neg g1]
              have e2 : w64 (ho (0 + i) 2 + w64 (((0 + kp : Nat) : Int) - 1)) = shrF (0 + kp) (0 + kf) F (0 + kf + i) 2 := by rw [Nat.zero_add i, r2, shrF_pos g2]
              refine ⟨?_, ?_⟩
              · conv => whnf
                refine ⟨rfl, ⟨false, i + 1, ?gisb1010, ?gbsb1010, ?gssb1010, ho, hb, hs⟩, [38, 35], ?invsb1010, ?musb1010, rfl, ?lssb1010⟩
                case lssb1010 =>
                  repeat' constructor
                  all_goals first | exact rfl | exact w64_nat (by dsimp only; omega) | skip
                case musb1010 => show 0 + kf - (i + 1) < 0 + kf - i; omega
                case invsb1010 =>
                  exact ⟨by show i + 1 ≤ 0 + kf; omega, push3 (A := shrF (0 + kp) (0 + kf) F) (k := 0 + kf + i) hg e0 e1 e2, hh⟩
              · conv => whnf
                repeat (first | (refine Or.inl ⟨by dsimp only; omega, ?_⟩; conv => whnf) | (refine Or.inr ?_; conv => whnf))
                refine ⟨rfl, ⟨false, i + 1, ?gisb1011, ?gbsb1011, ?gssb1011, ho, hb, hs⟩, [38, 35], ?invsb1011, ?musb1011, rfl, ?lssb1011⟩
                case lssb1011 =>
                  repeat' constructor
                  all_goals first | exact rfl | exact w64_nat (by dsimp only; omega) | skip
                case musb1011 => show 0 + kf - (i + 1) < 0 + kf - i; omega
                case invsb1011 =>
                  exact ⟨by show i + 1 ≤ 0 + kf; omega, push3 (A := shrF (0 + kp) (0 + kf) F) (k := 0 + kf + i) hg e0 e1 e2, hh⟩
            · have g2 : decide (0 < ho (0 + i) 2) = false := g2
              have g2 : ¬ 0 < F i 2 := by rw [Nat.zero_add, r2] at g2; exact of_decide_eq_false g2
              conv => whnf
              refine branchT (fits_small (n := 0 + kf + i + 1) (by omega)) ?_
              conv => whnf
              have e0 : w64 (ho (0 + i) 0 + w64 (((0 + kp : Nat) : Int) - 1)) = shrF (0 + kp) (0 + kf) F (0 + kf + i) 0 := by rw [Nat.zero_add i, r0, shrF_pos g0]
              have e1 : ho (0 + i) 1 = shrF (0 + kp) (0 + kf) F (0 + kf + i) 1 := by rw [Nat.zero_add i, r1, shrF_neg g1]
              have e2 : ho (0 + i) 2 = shrF (0 + kp) (0 + kf) F (0 + kf + i) 2 := by rw [Nat.zero_add i, r2, shrF_neg g2]
              refine ⟨?_, ?_⟩
              · conv => whnf
                refine ⟨rfl, ⟨false, i + 1, ?gisb1000, ?gbsb1000, ?gssb1000, ho, hb, hs⟩, [38, 35], ?invsb1000, ?musb1000, rfl, ?lssb1000⟩
                case lssb1000 =>
                  repeat' constructor
                  all_goals first | exact rfl | exact w64_nat (by dsimp only; omega) | skip
                case musb1000 => show 0 + kf - (i + 1) < 0 + kf - i; omega
                case invsb1000 =>
                  exact ⟨by show i + 1 ≤ 0 + kf; omega, push3 (A := shrF (0 + kp) (0 + kf) F) (k := 0 + kf + i) hg e0 e1 e2, hh⟩
              · conv => whnf
                repeat (first | (refine Or.inl ⟨by dsimp only; omega, ?_⟩; conv => whnf) | (refine Or.inr ?_; conv => whnf))
                refine ⟨rfl, ⟨false, i + 1, ?gisb1001, ?gbsb1001, ?gssb1001, ho, hb, hs⟩, [38, 35], ?invsb1001, ?musb1001, rfl, ?lssb1001⟩
                case lssb1001 =>
                  repeat' constructor
                  all_goals first | exact rfl | exact w64_nat (by dsimp only; omega) | skip
                case musb1001 => show 0 + kf - (i + 1) < 0 + kf - i; omega
                case invsb1001 =>
                  exact ⟨by show i + 1 ≤ 0 + kf; omega, push3 (A := shrF (0 + kp) (0 + kf) F) (k := 0 + kf + i) hg e0 e1 e2, hh⟩
        · have g0 : decide (0 < ho (0 + i) 0) = false := g0
          have g0 : ¬ 0 < F i 0 := by rw [Nat.zero_add, r0] at g0; exact of_decide_eq_false g0
          conv => whnf
          refine branchI (fun g1 => ?_) (fun g1 => ?_)
          · have g1 : decide (0 < ho (0 + i) 1) = true := g1
            have g1 : 0 < F i 1 := by rw [Nat.zero_add, r1] at g1; exact of_decide_eq_true g1
            conv => whnf
            refine branchI (fun g2 => ?_) (fun g2 => ?_)
            · have g2 : decide (0 < ho (0 + i) 2) = true := g2
              have g2 : 0 < F i 2 := by rw [Nat.zero_add, r2] at g2; exact of_decide_eq_true g2
              conv => whnf
              refine branchT (fits_small (n := 0 + kf + i + 1) (by omega)) ?_
              conv => whnf
              have e0 : ho (0 + i) 0 = shrF (0 + kp) (0 + kf) F (0 + kf + i) 0 := by rw [Nat.zero_add i, r0, shrF_neg g0]
              have e1 : w64 (ho (0 + i) 1 + w64 (((0 + kp : Nat) : Int) - 1)) = shrF (0 + kp) (0 + kf) F (0 + kf + i) 1 := by rw [Nat.zero_add i, r1, shrF_pos g1]
              have e2 : w64 (ho (0 + i) 2 + w64 (((0 + kp : Nat) : Int) - 1)) = shrF (0 + kp) (0 + kf) F (0 + kf + i) 2 := by rw [Nat.zero_add i, r2, shrF_pos g2]
              refine ⟨?_, ?_⟩
              · conv => whnf
                refine ⟨rfl, ⟨false, i + 1, ?gisb0110, ?gbsb0110, ?gssb0110, ho, hb, hs⟩, [38, 35], ?invsb0110, ?musb0110, rfl, ?lssb0110⟩
                case lssb0110 =>
                  repeat' constructor
                  all_goals first | exact rfl | exact w64_nat (by dsimp only; omega) | skip
                case musb0110 => show 0 + kf - (i + 1) < 0 + kf - i; omega
                case invsb0110 =>
                  exact ⟨by show i + 1 ≤ 0 + kf; omega, push3 (A := shrF (0 + kp) (0 + kf) F) (k := 0 + kf + i) hg e0 e1 e2, hh⟩
              · conv => whnf
                repeat (first | (refine Or.inl ⟨by dsimp only; omega, ?_⟩; conv => whnf) | (refine Or.inr ?_; conv => whnf))
                refine ⟨rfl, ⟨false, i + 1, ?gisb0111, ?gbsb0111, ?gssb0111, ho, hb, hs⟩, [38, 35], ?invsb0111, ?musb0111, rfl, ?lssb0111⟩
                case lssb0111 =>
                  repeat' constructor
                  all_goals first | exact rfl | exact w64_nat (by dsimp only; omega) | skip
                case musb0111 => show 0 + kf - (i + 1) < 0 + kf - i; omega
                case invsb0111 =>
                  exact ⟨by show i + 1 ≤ 0 + kf; omega, push3 (A := shrF (0 + kp) (0 + kf) F) (k := 0 + kf + i) hg e0 e1 e2, hh⟩
            · have g2 : decide (0 < ho (0 + i) 2) = false := g2
              have g2 : ¬ 0 < F i 2 := by rw [Nat.zero_add, r2] at g2; exact of_decide_eq_false g2
              conv => whnf
              refine branchT (fits_small (n := 0 + kf + i + 1) (by omega)) ?_
              conv => whnf
              have e0 : ho (0 + i) 0 = shrF (0 + kp) (0 + kf) F (0 + kf + i) 0 := by rw [Nat.zero_add i, r0, shrF_neg g0]
              have e1 : w64 (ho (0 + i) 1 + w64 (((0 + kp : Nat) : Int) - 1)) = shrF (0 + kp) (0 + kf) F (0 + kf + i) 1 := by rw [Nat.zero_add i, r1, shrF_pos g1]
              have e2 : ho (0 + i) 2 = shrF (0 + kp) (0 + kf) F (0 + kf + i) 2 := by rw [Nat.zero_add i, r2, shrF_neg g2]
              refine ⟨?_, ?_⟩
              · conv => whnf
                refine ⟨rfl, ⟨false, i + 1, ?gisb0100, ?gbsb0100, ?gssb0100, ho, hb, hs⟩, [38, 35], ?invsb0100, ?musb0100, rfl, ?lssb0100⟩
                case lssb0100 =>
                  repeat' constructor
                  all_goals first | exact rfl | exact w64_nat (by dsimp only; omega) | skip
                case musb0100 => show 0 + kf - (i + 1) < 0 + kf - i; omega
                case invsb0100 =>
                  exact ⟨by show i + 1 ≤ 0 + kf; omega, push3 (A := shrF (0 + kp) (0 + kf) F) (k := 0 + kf + i) hg e0 e1 e2, hh⟩
              · conv => whnf
                repeat (first | (refine Or.inl ⟨by dsimp only; omega, ?_⟩; conv => whnf) | (refine Or.inr ?_; conv => whnf))
                refine ⟨rfl, ⟨false, i + 1, ?gisb0101, ?gbsb0101, ?gssb0101, ho, hb, hs⟩, [38, 35], ?invsb0101, ?musb0101, rfl, ?lssb0101⟩
                case lssb0101 =>
                  repeat' constructor
                  all_goals first | exact rfl | exact w64_nat (by dsimp only; omega) | skip
                case musb0101 => show 0 + kf - (i + 1) < 0 + kf - i; omega
                case invsb0101 =>
                  exact ⟨by show i + 1 ≤ 0 + kf; omega, push3 (A := shrF (0 + kp) (0 + kf) F) (k := 0 + kf + i) hg e0 e1 e2, hh⟩
          · have g1 : decide (0 < ho (0 + i) 1) = false := g1
            have g1 : ¬ 0 < F i 1 := by rw [Nat.zero_add, r1] at g1; exact of_decide_eq_false g1
            conv => whnf
            refine branchI (fun g2 => ?_) (fun g2 => ?_)
            · have g2 : decide (0 < ho (0 + i) 2) = true := g2
              have g2 : 0 < F i 2 := by rw [Nat.zero_add, r2] at g2; exact of_decide_eq_true g2
              conv => whnf
              refine branchT (fits_small (n := 0 + kf + i + 1) (by omega)) ?_
              conv => whnf
              have e0 : ho (0 + i) 0 = shrF (0 + kp) (0 + kf) F (0 + kf + i) 0 := by rw [Nat.zero_add i, r0, shrF_neg g0]
              have e1 : ho (0 + i) 1 = shrF (0 + kp) (0 + kf) F (0 + kf + i) 1 := by rw [Nat.zero_add i, r1, shrF_neg g1]
              have e2 : w64 (ho (0 + i) 2 + w64 (((0 + kp : Nat) : Int) - 1)) = shrF (0 + kp) (0 + kf) F (0 + kf + i) 2 := by rw [Nat.zero_add i, r2, shrF_pos g2]
              refine ⟨?_, ?_⟩
              · conv => whnf
                refine ⟨rfl, ⟨false, i + 1, ?gisb0010, ?gbsb0010, ?gssb0010, ho, hb, hs⟩, [38, 35], ?invsb0010, ?musb0010, rfl, ?lssb0010⟩
                case lssb0010 =>
                  repeat' constructor
                  all_goals first | exact rfl | exact w64_nat (by dsimp only; omega) | skip
                case musb0010 => show 0 + kf - (i + 1) < 0 + kf - i; omega
                case invsb0010 =>
                  exact ⟨by show i + 1 ≤ 0 + kf; omega, push3 (A := shrF (0 + kp) (0 + kf) F) (k := 0 + kf + i) hg e0 e1 e2, hh⟩
              · conv => whnf
                repeat (first | (refine Or.inl ⟨by dsimp only; omega, ?_⟩; conv => whnf) | (refine Or.inr ?_; conv => whnf))
                refine ⟨rfl, ⟨false, i + 1, ?gisb0011, ?gbsb0011, ?gssb0011, ho, hb, hs⟩, [38, 35], ?invsb0011, ?musb0011, rfl, ?lssb0011⟩
                case lssb0011 =>
                  repeat' constructor
                  all_goals first | exact rfl | exact w64_nat (by dsimp only; omega) | skip
                case musb0011 => show 0 + kf - (i + 1) < 0 + kf - i; omega
                case invsb0011 =>
                  exact ⟨by show i + 1 ≤ 0 + kf; omega, push3 (A := shrF (0 + kp) (0 + kf) F) (k := 0 + kf + i) hg e0 e1 e2, hh⟩
            · have g2 : decide (0 < ho (0 + i) 2) = false := g2
              have g2 : ¬ 0 < F i 2 := by rw [Nat.zero_add, r2] at g2; exact of_decide_eq_false g2
              conv => whnf
              refine branchT (fits_small (n := 0 + kf + i + 1) (by omega)) ?_
              conv => whnf
              have e0 : ho (0 + i) 0 = shrF (0 + kp) (0 + kf) F (0 + kf + i) 0 := by rw [Nat.zero_add i, r0, shrF_neg g0]
              have e1 : ho (0 + i) 1 = shrF (0 + kp) (0 + kf) F (0 + kf + i) 1 := by rw [Nat.zero_add i, r1, shrF_neg g1]
              have e2 : ho (0 + i) 2 = shrF (0 + kp) (0 + kf) F (0 + kf + i) 2 := by rw [Nat.zero_add i, r2, shrF_neg g2]
              refine ⟨?_, ?_⟩
              · conv => whnf
                refine ⟨rfl, ⟨false, i + 1, ?gisb0000, ?gbsb0000, ?gssb0000, ho, hb, hs⟩, [38, 35], ?invsb0000, ?musb0000, rfl, ?lssb0000⟩
                case lssb0000 =>
                  repeat' constructor
                  all_goals first | exact rfl | exact w64_nat (by dsimp only; omega) | skip
                case musb0000 => show 0 + kf - (i + 1) < 0 + kf - i; omega
                case invsb0000 =>
                  exact ⟨by show i + 1 ≤ 0 + kf; omega, push3 (A := shrF (0 + kp) (0 + kf) F) (k := 0 + kf + i) hg e0 e1 e2, hh⟩
              · conv => whnf
                repeat (first | (refine Or.inl ⟨by dsimp only; omega, ?_⟩; conv => whnf) | (refine Or.inr ?_; conv => whnf))
                refine ⟨rfl, ⟨false, i + 1, ?gisb0001, ?gbsb0001, ?gssb0001, ho, hb, hs⟩, [38, 35], ?invsb0001, ?musb0001, rfl, ?lssb0001⟩
                case lssb0001 =>
                  repeat' constructor
                  all_goals first | exact rfl | exact w64_nat (by dsimp only; omega) | skip
                case musb0001 => show 0 + kf - (i + 1) < 0 + kf - i; omega
                case invsb0001 =>
                  exact ⟨by show i + 1 ≤ 0 + kf; omega, push3 (A := shrF (0 + kp) (0 + kf) F) (k := 0 + kf + i) hg e0 e1 e2, hh⟩
      · have h3 : decide ((i : Int) < ((0 + kf : Nat) : Int)) = false := h3
        have h3 := of_decide_eq_false h3
        obtain rfl : i = 0 + kf := by omega
        conv => whnf
        refine branchT (sliceG3 (lo := 1) (hi := ((0 + kp : Nat) : Int)) (n := ((0 + kp : Nat) : Int)) (by omega) (by omega) (Int.le_refl _)) ?_
        conv => whnf
        refine loop_inv Tryz.e2ok 300 (fun s : BL => s.i ≤ 0 + kp - 1 ∧ (∀ j, j < 0 + kp + s.i → s.gi j 0 = shrP (0 + kp) P j 0 ∧ s.gi j 1 = shrP (0 + kp) P j 1 ∧ s.gi j 2 = shrP (0 + kp) P j 2) ∧ ∀ j, j < 0 + kp → s.ho j 0 = P j 0 ∧ s.ho j 1 = P j 1 ∧ s.ho j 2 = P j 2) (fun s => 0 + kp - 1 - s.i)
          (fun s => slots [(4, .ptr 2 0 0), (5, .ptr 22 0 0), (264, match s.b with | true => .sl 36 3 1 (0 + kp - 1) (0 + kp - 1) | false => .sl 37 3 1 (0 + kp - 1) (0 + kp - 1)), (265, i64 (0 + kp - 1 : Nat)), (266, i64 s.i)] 0 305)
          (fun s => .dead :: .dead :: .fix 24 [.nilSl, .nilSl] :: .dead :: .dead :: .dead :: .dead :: .dead :: .dead :: .dead :: .dead :: .dead :: .dead :: .dead :: .dead :: .dead :: .dead :: .dead :: .dead :: .dead :: .dead :: .dead :: .fix 24 [.sl 36 3 0 (0 + kp + s.i) (0 + kp + s.i), .sl 34 3 0 (0 + kf + (0 + kf)) (0 + kf + (0 + kf))] :: .dead :: .dead :: .dead :: .dead :: .dead :: .dead :: .dead :: .dead :: .dead :: .dead :: .dead :: .arr 41 sh3 gi gb gs :: .dead :: .arr 41 sh3 s.gi s.gb s.gs :: (match s.b with | true => [] | false => [.arr 41 sh3 s.ho s.hb s.hs]))
          ⟨true, 0, ?gi0q1036, ?gb0q1036, ?gs0q1036, P, fun _ _ => false, fun _ _ => []⟩ [11] ?i0q1036 ?l0q1036 rfl ?_
        case l0q1036 =>
          repeat' constructor
          all_goals exact rfl
        case i0q1036 =>
          refine ⟨Nat.zero_le _, fun j hj => ?_, fun j _ => ⟨rfl, rfl, rfl⟩⟩
          have hj : j < 0 + kp := hj
          have e : ∀ c, shrP (0 + kp) P j c = P (0 + j) c := fun c => by rw [shrP_lt hj, Nat.zero_add]
          rw [e, e, e]
          exact ⟨rfl, rfl, rfl⟩
        rintro ⟨b2, i, gi2, gb2, gs2, ho2, hb2, hs2⟩ ⟨hi2, hg2, hh2⟩
        cases b2 with
        | true =>
          have hi2 : i ≤ 0 + kp - 1 := hi2
          have hg2 : ∀ j, j < 0 + kp + i → gi2 j 0 = shrP (0 + kp) P j 0 ∧ gi2 j 1 = shrP (0 + kp) P j 1 ∧ gi2 j 2 = shrP (0 + kp) P j 2 := hg2
          have hh2 : ∀ j, j < 0 + kp → ho2 j 0 = P j 0 ∧ ho2 j 1 = P j 1 ∧ ho2 j 2 = P j 2 := hh2
          have hl2 : ∀ j, j < 0 + kp → gi2 j 0 = P j 0 ∧ gi2 j 1 = P j 1 ∧ gi2 j 2 = P j 2 := fun j hj => by
            obtain ⟨a, b, c⟩ := hg2 j (by omega)
            rw [a, b, c, shrP_lt hj, shrP_lt hj, shrP_lt hj]
            exact ⟨rfl, rfl, rfl⟩
          conv => whnf
          refine branchI (fun h3 => ?_) (fun h3 => ?_)
          · have h3 : decide ((i : Int) < ((0 + kp - 1 : Nat) : Int)) = true := h3
            have h3 := of_decide_eq_true h3
            obtain ⟨r0, r1, r2⟩ := hl2 (1 + i) (by omega)
            obtain ⟨z0, z1, z2⟩ := hl2 0 (by omega)
            conv => whnf
            refine branchT (guardI (a := (i : Int)) (n := 0 + kp - 1) ⟨by omega, by omega⟩) ?_
            conv => whnf
            refine branchT (guardI (a := 0) (n := 0 + kp + i) ⟨by omega, by omega⟩) ?_
            conv => whnf
            refine branchT (guardI (a := 0) (n := 0 + kp + i) ⟨by omega, by omega⟩) ?_
            conv => whnf
            refine branchT (guardI (a := 0) (n := 0 + kp + i) ⟨by omega, by omega⟩) ?_
            conv => whnf
            refine branchT (fits_small (n := 0 + kp + i + 1) (by omega)) ?_
            conv => whnf
            have e0 : w64 (w64 (2 * gi2 0 0) - gi2 (1 + i) 0) = shrP (0 + kp) P (0 + kp + i) 0 := by rw [z0, r0, shrP_at, Nat.add_comm 1 i]
            have e1 : w64 (w64 (2 * gi2 0 1) - gi2 (1 + i) 1) = shrP (0 + kp) P (0 + kp + i) 1 := by rw [z1, r1, shrP_at, Nat.add_comm 1 i]
            have e2 : w64 (w64 (2 * gi2 0 2) - gi2 (1 + i) 2) = shrP (0 + kp) P (0 + kp + i) 2 := by rw [z2, r2, shrP_at, Nat.add_comm 1 i]
            refine ⟨?_, ?_⟩
            · conv => whnf
              refine ⟨rfl, ⟨false, i + 1, ?gip1036a0, ?gbp1036a0, ?gsp1036a0, gi2, gb2, gs2⟩, [69, 36], ?invp1036a0, ?mup1036a0, rfl, ?lsp1036a0⟩
              case lsp1036a0 =>
                repeat' constructor
                all_goals first | exact rfl | exact w64_nat (by dsimp only; omega) | skip
              case mup1036a0 => show 0 + kp - 1 - (i + 1) < 0 + kp - 1 - i; omega
              case invp1036a0 =>
                exact ⟨by show i + 1 ≤ 0 + kp - 1; omega, push3 (A := shrP (0 + kp) P) (k := 0 + kp + i) hg2 e0 e1 e2, hl2⟩
            · conv => whnf
              repeat (first | (refine Or.inl ⟨by dsimp only; omega, ?_⟩; conv => whnf) | (refine Or.inr ?_; conv => whnf))
              refine ⟨rfl, ⟨true, i + 1, ?gip1036a1, ?gbp1036a1, ?gsp1036a1, ho2, hb2, hs2⟩, [69], ?invp1036a1, ?mup1036a1, rfl, ?lsp1036a1⟩
              case lsp1036a1 =>
                repeat' constructor
                all_goals first | exact rfl | exact w64_nat (by dsimp only; omega) | skip
              case mup1036a1 => show 0 + kp - 1 - (i + 1) < 0 + kp - 1 - i; omega
              case invp1036a1 =>
                exact ⟨by show i + 1 ≤ 0 + kp - 1; omega, push3 (A := shrP (0 + kp) P) (k := 0 + kp + i) hg2 e0 e1 e2, hh2⟩
          · have h3 : decide ((i : Int) < ((0 + kp - 1 : Nat) : Int)) = false := h3
            have h3 := of_decide_eq_false h3
            obtain rfl : i = 0 + kp - 1 := by omega
            conv => whnf
            rw [leaf 10 x10, zfun, zfun]
            refine RetSub.of (.agg (.cons (SubV.ro fun j hj => ?_) (.cons (SubV.ro fun j hj => ?_) .nil)))
            · obtain ⟨q0, q1, q2⟩ := hg2 j hj
              show [i64 (gi2 (0 + j) 0), i64 (gi2 (0 + j) 1), i64 (gi2 (0 + j) 2)] = [i64 (shrP (0 + kp) P j 0), i64 (shrP (0 + kp) P j 1), i64 (shrP (0 + kp) P j 2)]
              rw [Nat.zero_add, q0, q1, q2]
            · obtain ⟨q0, q1, q2⟩ := hg j hj
              show [i64 (gi (0 + j) 0), i64 (gi (0 + j) 1), i64 (gi (0 + j) 2)] = [i64 (shrF (0 + kp) (0 + kf) F j 0), i64 (shrF (0 + kp) (0 + kf) F j 1), i64 (shrF (0 + kp) (0 + kf) F j 2)]
              rw [Nat.zero_add, q0, q1, q2]
        | false =>
          have hi2 : i ≤ 0 + kp - 1 := hi2
          have hg2 : ∀ j, j < 0 + kp + i → gi2 j 0 = shrP (0 + kp) P j 0 ∧ gi2 j 1 = shrP (0 + kp) P j 1 ∧ gi2 j 2 = shrP (0 + kp) P j 2 := hg2
          have hh2 : ∀ j, j < 0 + kp → ho2 j 0 = P j 0 ∧ ho2 j 1 = P j 1 ∧ ho2 j 2 = P j 2 := hh2
          have hl2 : ∀ j, j < 0 + kp → gi2 j 0 = P j 0 ∧ gi2 j 1 = P j 1 ∧ gi2 j 2 = P j 2 := fun j hj => by
            obtain ⟨a, b, c⟩ := hg2 j (by omega)
            rw [a, b, c, shrP_lt hj, shrP_lt hj, shrP_lt hj]
            exact ⟨rfl, rfl, rfl⟩
          conv => whnf
          refine branchI (fun h3 => ?_) (fun h3 => ?_)
          · have h3 : decide ((i : Int) < ((0 + kp - 1 : Nat) : Int)) = true := h3
            have h3 := of_decide_eq_true h3
            obtain ⟨r0, r1, r2⟩ := hh2 (1 + i) (by omega)
            obtain ⟨z0, z1, z2⟩ := hl2 0 (by omega)
            conv => whnf
            refine branchT (guardI (a := (i : Int)) (n := 0 + kp - 1) ⟨by omega, by omega⟩) ?_
            conv => whnf
            refine branchT (guardI (a := 0) (n := 0 + kp + i) ⟨by omega, by omega⟩) ?_
            conv => whnf
            refine branchT (guardI (a := 0) (n := 0 + kp + i) ⟨by omega, by omega⟩) ?_
            conv => whnf
            refine branchT (guardI (a := 0) (n := 0 + kp + i) ⟨by omega, by omega⟩) ?_
            conv => whnf
            refine branchT (fits_small (n := 0 + kp + i + 1) (by omega)) ?_
            conv => whnf
            have e0 : w64 (w64 (2 * gi2 0 0) - ho2 (1 + i) 0) = shrP (0 + kp) P (0 + kp + i) 0 := by rw [z0, r0, shrP_at, Nat.add_comm 1 i]
            have e1 : w64 (w64 (2 * gi2 0 1) - ho2 (1 + i) 1) = shrP (0 + kp) P (0 + kp + i) 1 := by rw [z1, r1, shrP_at, Nat.add_comm 1 i]
            have e2 : w64 (w64 (2 * gi2 0 2) - ho2 (1 + i) 2) = shrP (0 + kp) P (0 + kp + i) 2 := by rw [z2, r2, shrP_at, Nat.add_comm 1 i]
            refine ⟨?_, ?_⟩
            · conv => whnf
              refine ⟨rfl, ⟨false, i + 1, ?gip1036b0, ?gbp1036b0, ?gsp1036b0, ho2, hb2, hs2⟩, [70, 37], ?invp1036b0, ?mup1036b0, rfl, ?lsp1036b0⟩
              case lsp1036b0 =>
                repeat' constructor
                all_goals first | exact rfl | exact w64_nat (by dsimp only; omega) | skip
              case mup1036b0 => show 0 + kp - 1 - (i + 1) < 0 + kp - 1 - i; omega
              case invp1036b0 =>
                exact ⟨by show i + 1 ≤ 0 + kp - 1; omega, push3 (A := shrP (0 + kp) P) (k := 0 + kp + i) hg2 e0 e1 e2, hh2⟩
            · conv => whnf
              repeat (first | (refine Or.inl ⟨by dsimp only; omega, ?_⟩; conv => whnf) | (refine Or.inr ?_; conv => whnf))
              refine ⟨rfl, ⟨false, i + 1, ?gip1036b1, ?gbp1036b1, ?gsp1036b1, ho2, hb2, hs2⟩, [70, 37], ?invp1036b1, ?mup1036b1, rfl, ?lsp1036b1⟩
              case lsp1036b1 =>
                repeat' constructor
                all_goals first | exact rfl | exact w64_nat (by dsimp only; omega) | skip
              case mup1036b1 => show 0 + kp - 1 - (i + 1) < 0 + kp - 1 - i; omega
              case invp1036b1 =>
                exact ⟨by show i + 1 ≤ 0 + kp - 1; omega, push3 (A := shrP (0 + kp) P) (k := 0 + kp + i) hg2 e0 e1 e2, hh2⟩
          · have h3 : decide ((i : Int) < ((0 + kp - 1 : Nat) : Int)) = false := h3
            have h3 := of_decide_eq_false h3
            obtain rfl : i = 0 + kp - 1 := by omega
            conv => whnf
            rw [leaf 10 x10, zfun, zfun]
            refine RetSub.of (.agg (.cons (SubV.ro fun j hj => ?_) (.cons (SubV.ro fun j hj => ?_) .nil)))
            · obtain ⟨q0, q1, q2⟩ := hg2 j hj
              show [i64 (gi2 (0 + j) 0), i64 (gi2 (0 + j) 1), i64 (gi2 (0 + j) 2)] = [i64 (shrP (0 + kp) P j 0), i64 (shrP (0 + kp) P j 1), i64 (shrP (0 + kp) P j 2)]
              rw [Nat.zero_add, q0, q1, q2]
            · obtain ⟨q0, q1, q2⟩ := hg j hj
              show [i64 (gi (0 + j) 0), i64 (gi (0 + j) 1), i64 (gi (0 + j) 2)] = [i64 (shrF (0 + kp) (0 + kf) F j 0), i64 (shrF (0 + kp) (0 + kf) F j 1), i64 (shrF (0 + kp) (0 + kf) F j 2)]
              rw [Nat.zero_add, q0, q1, q2]
  conv => whnf
  have e : bendM w a t n np P nf F = ⟨0 + kp, fun j c => P (0 + j) c, 0 + kf, fun j c => F (0 + j) c⟩ := by
    rw [leaf (w.tmod 12) (by simp)]
    simp only [bendC, if_neg (ne_of_beq_false x0), if_neg (ne_of_beq_false x1), if_neg (ne_of_beq_false x2), if_neg (ne_of_beq_false x3), if_neg (ne_of_beq_false x4), if_neg (ne_of_beq_false x5), if_neg (ne_of_beq_false x6), if_neg (ne_of_beq_false x7), if_neg (ne_of_beq_false x8), if_neg (ne_of_beq_false x9), if_neg (ne_of_beq_false x10)]
  rw [e]
  exact RetSub.of (.agg (.cons (row0 fun j _ => rfl) (.cons (row0 fun j _ => rfl) .nil)))
end Go.Proofs.YtkhbmendaapojaaGreatDoor
