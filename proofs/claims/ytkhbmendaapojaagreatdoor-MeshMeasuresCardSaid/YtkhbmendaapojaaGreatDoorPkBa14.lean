/- A mesh's single points and faces: the first flaw. slices.Index of a row of booleans. Plain laws: the edges' map; the faces that a walk reaches. The first flaw of a mesh; the edges' map. -/
import Derived.Test.YtkhbmendaapojaaGreatDoorPkBa13
import Derived.Test.YtkhbmendaapojaaGreatDoorPkBa12
set_option linter.unusedSimpArgs false
set_option linter.unusedVariables false
/- A mesh's single points and faces: the first flaw. -/
namespace Go.Proofs.YtkhbmendaapojaaGreatDoor
open Go Go.Vx
set_option maxRecDepth 100000
attribute [local irreducible] CallV LoopV CodeV
/-- The first place from i on, of c places, at which p holds. -/
def first (p : Nat → Bool) : Nat → Nat → Option Nat
  | _, 0 => none
  | i, c + 1 => if p i then some i else first p (i + 1) c
abbrev rows3 (n : Nat) (g : Nat → Nat → Int) : V := .ro 3 n (fun i => [i64 (g i 0), i64 (g i 1), i64 (g i 2)])
abbrev bodyB (np : Nat) (P : Nat → Nat → Int) (nf : Nat) (F : Nat → Nat → Int) (ed : V) : Blk := .fix 74 [rows3 np P, rows3 nf F, ed]
def min3 (a b c : Int) : Int := if c < (if b < a then b else a) then c else (if b < a then b else a)
def max3 (a b c : Int) : Int := if (if a < b then b else a) < c then c else (if a < b then b else a)
def badF (np : Nat) (a b c : Int) : Bool := a == b || (b == c || (c == a || (decide (min3 a b c < 0) || decide ((np : Int) ≤ max3 a b c))))
def flatF (P : Nat → Nat → Int) (a b c : Int) : Bool :=
  let p := P a.toNat; let q := P b.toNat; let r := P c.toNat
  let u0 := w64 (q 0 - p 0); let u1 := w64 (q 1 - p 1); let u2 := w64 (q 2 - p 2)
  let v0 := w64 (r 0 - p 0); let v1 := w64 (r 1 - p 1); let v2 := w64 (r 2 - p 2)
  crossC u1 v2 u2 v1 == 0 && (crossC u2 v0 u0 v2 == 0 && (crossC u0 v1 u1 v0 == 0 && true))
def singleS (np : Nat) (P : Nat → Nat → Int) (nf : Nat) (F : Nat → Nat → Int) : Int × Int :=
  if (np : Int) < 4 ∨ 300 < (np : Int) then (1, 0) else
  if (nf : Int) < 4 ∨ 600 < (nf : Int) then (1, 1) else
  match first (fun i => far3 (P i 0) (P i 1) (P i 2)) 0 np with
  | some i => (2, i)
  | none => match first (fun i => badF np (F i 0) (F i 1) (F i 2)) 0 nf with
    | some i => (3, i)
    | none => match first (fun i => flatF P (F i 0) (F i 1) (F i 2)) 0 nf with
      | some i => (4, i)
      | none => (0, 0)
theorem first_step {p : Nat → Bool} {i n : Nat} (h : i < n) : first p i (n - i) = if p i then some i else first p (i + 1) (n - (i + 1)) := by
  rw [show n - i = (n - (i + 1)) + 1 by omega, first]
theorem first_end {p : Nat → Bool} {i n : Nat} (h : n ≤ i) : first p i (n - i) = none := by rw [show n - i = 0 by omega]; rfl
abbrev SgK (np : Nat) (P : Nat → Nat → Int) (nf : Nat) (F : Nat → Nat → Int) : Out → List Blk → Prop :=
  fun o L => o = .ret (.tup [i64 (singleS np P nf F).1, i64 (singleS np P nf F).2]) ∧ L = [bodyB np P nf F .nilMap]
theorem sg_end {np : Nat} {P : Nat → Nat → Int} {nf : Nat} {F : Nat → Nat → Int} {a b : Int} {L : List Blk} (h : singleS np P nf F = (a, b)) (hL : Nat.ble (len L) 899998 = true) :
    ∃ (v v' : V) (M : List Blk) (xs : List Nat), Out.ret (.tup [i64 a, i64 b]) = .ret v ∧ Nat.ble (len (bodyB np P nf F .nilMap :: L)) 900000 = true ∧ leS 1 [v] (bodyB np P nf F .nilMap :: L) [v'] M xs ∧ SgK np P nf F (.ret v') M := by
  refine ⟨_, .tup [i64 a, i64 b], [bodyB np P nf F .nilMap], [], rfl, ?_, ?_, by rw [h], rfl⟩
  · have := Nat.le_of_ble_eq_true hL
    exact Nat.ble_eq.mpr (by simp only [len]; omega)
  · repeat' constructor
theorem first_none {p : Nat → Bool} : ∀ {c i : Nat}, first p i c = none → ∀ k, i ≤ k → k < i + c → p k = false
  | 0, _, _, k, h1, h2 => by omega
  | c + 1, i, h, k, h1, h2 => by
    rw [first] at h
    split at h
    · cases h
    · rename_i hp
      by_cases hk : k = i
      · subst hk; simpa using hp
      · exact first_none h k (by omega) (by omega)
theorem min3_lt {a b c n : Int} : min3 a b c < n ↔ a < n ∨ b < n ∨ c < n := by
  unfold min3
  by_cases h : b < a
  · rw [if_pos h]; split <;> omega
  · rw [if_neg h]; split <;> omega
theorem max3_le {a b c n : Int} : n ≤ max3 a b c ↔ n ≤ a ∨ n ≤ b ∨ n ≤ c := by
  unfold max3
  by_cases h : a < b
  · rw [if_pos h]; split <;> omega
  · rw [if_neg h]; split <;> omega
theorem badF_false {np : Nat} {a b c : Int} (h : badF np a b c = false) : (0 ≤ a ∧ a < np) ∧ (0 ≤ b ∧ b < np) ∧ (0 ≤ c ∧ c < np) ∧ a ≠ b ∧ b ≠ c ∧ c ≠ a := by
  simp only [badF, min3_lt, max3_le, Bool.or_eq_false_iff, beq_eq_false_iff_ne, decide_eq_false_iff_not] at h
  obtain ⟨h1, h2, h3, h4, h5⟩ := h
  refine ⟨?_, ?_, ?_, h1, h2, h3⟩ <;> omega
theorem single_call (np : Nat) (P : Nat → Nat → Int) (nf : Nat) (F : Nat → Nat → Int) :
    CallS Tryz.prog 62 [.ptr 0 0 0] [bodyB np P nf F .nilMap] (SgK np P nf F) := by
  refine callS_tidy rfl (callS_of_code (E := Tryz.E) Tryz.tok Tryz.func62 rfl ((good Tryz.eok 200).2.2.1 none _ _ _ _ _ ?_))
  conv => whnf
  refine branchI (fun h1 => ?_) (fun h1 => ?_)
  · conv => whnf
    exact sg_end (L := []) (by simp at h1; simp [singleS, h1]) rfl
  conv => whnf
  refine branchI (fun h2 => ?_) (fun h2 => ?_)
  · conv => whnf
    exact sg_end (L := []) (by simp at h2; simp [singleS, h2]) rfl
  simp at h1 h2
  conv => whnf
  refine branchI (fun h3 => ?_) (fun h3 => ?_)
  · conv => whnf
    exact sg_end (L := []) (by simp at h3; simp [singleS, h3]; omega) rfl
  conv => whnf
  refine branchI (fun h4 => ?_) (fun h4 => ?_)
  · conv => whnf
    exact sg_end (L := []) (by simp at h4; simp [singleS, h4]; omega) rfl
  simp at h3 h4
  have hS : singleS np P nf F = (match first (fun i => far3 (P i 0) (P i 1) (P i 2)) 0 np with
      | some i => (2, (i : Int))
      | none => match first (fun i => badF np (F i 0) (F i 1) (F i 2)) 0 nf with
        | some i => (3, (i : Int))
        | none => match first (fun i => flatF P (F i 0) (F i 1) (F i 2)) 0 nf with
          | some i => (4, (i : Int))
          | none => (0, 0)) := by
    simp only [singleS]
    rw [if_neg (by omega), if_neg (by omega)]
  conv => whnf
  refine loop_inv Tryz.eok 180 (fun i : Nat => i ≤ np ∧ first (fun i => far3 (P i 0) (P i 1) (P i 2)) 0 np = first (fun i => far3 (P i 0) (P i 1) (P i 2)) i (np - i)) (fun i => np - i)
    (fun i => slots [(0, .ptr 0 0 0), (43, rows3 np P), (44, i64 np), (45, i64 i)] 0 141) (fun _ => [bodyB np P nf F .nilMap]) 0 [] ⟨Nat.zero_le _, rfl⟩ (by repeat' constructor) rfl ?_
  rintro i ⟨hi, hfi⟩
  conv => whnf
  refine branchI (fun hl => ?_) (fun hl => ?_)
  · simp at hl
    rw [first_step hl] at hfi
    conv => whnf
    refine branchT (by simp; omega) ?_
    conv => whnf
    refine callF1 (far_pure _ _ _) rfl rfl ?_
    conv => whnf
    refine branchI (fun hf => ?_) (fun hf => ?_)
    · conv => whnf
      have hf : far3 (P i 0) (P i 1) (P i 2) = true := hf
      rw [if_pos hf] at hfi
      exact sg_end (by rw [hS, hfi]) rfl
    · conv => whnf
      have hf : far3 (P i 0) (P i 1) (P i 2) = false := hf
      rw [if_neg (by rw [hf]; simp)] at hfi
      refine ⟨rfl, i + 1, [], ⟨hl, hfi⟩, by omega, rfl, ?_⟩
      repeat' constructor
      exact w64_nat (by omega)
  simp at hl
  rw [first_end hl] at hfi
  rw [hfi] at hS
  simp only at hS
  conv => whnf
  refine loop_inv Tryz.eok 180 (fun i : Nat => i ≤ nf ∧ first (fun i => badF np (F i 0) (F i 1) (F i 2)) 0 nf = first (fun i => badF np (F i 0) (F i 1) (F i 2)) i (nf - i)) (fun i => nf - i)
    (fun i => slots [(0, .ptr 0 0 0), (58, rows3 nf F), (59, i64 nf), (60, i64 i)] 0 141) (fun _ => [bodyB np P nf F .nilMap]) 0 [] ⟨Nat.zero_le _, rfl⟩ (by repeat' constructor) rfl ?_
  rintro k ⟨hk, hfk⟩
  conv => whnf
  refine branchI (fun hl2 => ?_) (fun hl2 => ?_)
  · simp at hl2
    rw [first_step hl2] at hfk
    conv => whnf
    refine branchT (by simp; omega) ?_
    have bad : badF np (F k 0) (F k 1) (F k 2) = true → singleS np P nf F = (3, (k : Int)) := fun hb => by rw [if_pos hb] at hfk; rw [hS, hfk]
    have good : badF np (F k 0) (F k 1) (F k 2) = false → first (fun i => badF np (F i 0) (F i 1) (F i 2)) 0 nf = first (fun i => badF np (F i 0) (F i 1) (F i 2)) (k + 1) (nf - (k + 1)) := fun hb => by rw [if_neg (by rw [hb]; simp)] at hfk; exact hfk
    conv => whnf
    refine branchI (fun c1 => ?_) (fun c1 => ?_)
    · have c1 : (F k 0 == F k 1) = true := c1
      conv => whnf
      exact sg_end (bad (by simp only [badF, c1, Bool.true_or])) rfl
    have c1 : (F k 0 == F k 1) = false := c1
    conv => whnf
    refine branchI (fun c2 => ?_) (fun c2 => ?_)
    · have c2 : (F k 1 == F k 2) = true := c2
      conv => whnf
      exact sg_end (bad (by simp only [badF, c2, Bool.true_or, Bool.or_true])) rfl
    have c2 : (F k 1 == F k 2) = false := c2
    conv => whnf
    refine branchI (fun c3 => ?_) (fun c3 => ?_)
    · have c3 : (F k 2 == F k 0) = true := c3
      conv => whnf
      exact sg_end (bad (by simp only [badF, c3, Bool.true_or, Bool.or_true])) rfl
    have c3 : (F k 2 == F k 0) = false := c3
    conv => whnf
    refine branchI (fun c4 => ?_) (fun c4 => ?_)
    · have c4 : decide (min3 (F k 0) (F k 1) (F k 2) < 0) = true := c4
      conv => whnf
      exact sg_end (bad (by simp only [badF, c4, Bool.true_or, Bool.or_true])) rfl
    have c4 : decide (min3 (F k 0) (F k 1) (F k 2) < 0) = false := c4
    conv => whnf
    refine branchI (fun c5 => ?_) (fun c5 => ?_)
    · have c5 : decide ((np : Int) ≤ max3 (F k 0) (F k 1) (F k 2)) = true := c5
      conv => whnf
      exact sg_end (bad (by simp only [badF, c5, Bool.or_true])) rfl
    have c5 : decide ((np : Int) ≤ max3 (F k 0) (F k 1) (F k 2)) = false := c5
    conv => whnf
    refine ⟨rfl, k + 1, [], ⟨hl2, good (by simp only [badF, c1, c2, c3, c4, c5, Bool.or_false])⟩, by omega, rfl, ?_⟩
    repeat' constructor
    exact w64_nat (by omega)
  simp at hl2
  rw [first_end hl2] at hfk
  rw [hfk] at hS
  simp only at hS
  have hin : ∀ k, k < nf → badF np (F k 0) (F k 1) (F k 2) = false := fun k hk => first_none hfk k (Nat.zero_le _) (by omega)
  conv => whnf
  refine loop_inv Tryz.eok 180 (fun i : Nat => i ≤ nf ∧ first (fun i => flatF P (F i 0) (F i 1) (F i 2)) 0 nf = first (fun i => flatF P (F i 0) (F i 1) (F i 2)) i (nf - i)) (fun i => nf - i)
    (fun i => slots [(0, .ptr 0 0 0), (116, rows3 nf F), (117, i64 nf), (118, i64 i)] 0 141) (fun _ => [bodyB np P nf F .nilMap]) 0 [] ⟨Nat.zero_le _, rfl⟩ (by repeat' constructor) rfl ?_
  rintro m ⟨hm, hfm⟩
  conv => whnf
  refine branchI (fun hl3 => ?_) (fun hl3 => ?_)
  · simp at hl3
    rw [first_step hl3] at hfm
    conv => whnf
    refine branchT (by simp; omega) ?_
    obtain ⟨b0, b1, b2, _⟩ := badF_false (hin m hl3)
    conv => whnf
    refine branchT (guardI b0) ?_
    conv => whnf
    refine branchT (guardI b1) ?_
    conv => whnf
    refine branchT (guardI b2) ?_
    conv => whnf
    refine ⟨_, _, callD (pminus_pure _ _ _ _ _ _) rfl (.inl rfl), ?_⟩
    conv => whnf
    refine ⟨_, _, callD (pminus_pure _ _ _ _ _ _) rfl (.inl rfl), ?_⟩
    conv => whnf
    refine ⟨_, _, callD (cross_pure _ _ _ _ _ _) rfl (.inl rfl), ?_⟩
    conv => whnf
    refine branchI (fun hf => ?_) (fun hf => ?_)
    · have hf : flatF P (F m 0) (F m 1) (F m 2) = true := hf
      conv => whnf
      rw [if_pos hf] at hfm
      exact sg_end (by rw [hS, hfm]) rfl
    have hf : flatF P (F m 0) (F m 1) (F m 2) = false := hf
    rw [if_neg (by rw [hf]; simp)] at hfm
    conv => whnf
    refine ⟨rfl, m + 1, [], ⟨hl3, hfm⟩, by omega, rfl, ?_⟩
    repeat' constructor
    exact w64_nat (by omega)
  · simp at hl3
    rw [first_end hl3] at hfm
    rw [hfm] at hS
    conv => whnf
    exact sg_end (by rw [hS]) rfl
end Go.Proofs.YtkhbmendaapojaaGreatDoor
/- slices.Index of a row of booleans. -/
namespace Go.Proofs.YtkhbmendaapojaaGreatDoor
open Go Go.Vx
set_option maxRecDepth 100000
attribute [local irreducible] CallV LoopV CodeV
abbrev rowB (n : Nat) (g : Nat → Bool) : V := .ro 1 n (fun i => [.bool (g i)])
def placeO (o : Option Nat) : Int := match o with
  | some i => i
  | none => -1
theorem index_pure (n : Nat) (g : Nat → Bool) (v : Bool) (hn : n < 4611686018427387904) : Pure Tryz.prog 64 [rowB n g, .bool v] (fun o => o = .ret (i64 (placeO (first (fun i => v == g i) 0 n)))) := by
  refine pure_of Tryz.func64 rfl 100 ?_
  conv => whnf
  refine loop_inv Tryz.eok 80 (fun i : Nat => i ≤ n ∧ first (fun i => v == g i) 0 n = first (fun i => v == g i) i (n - i)) (fun i => n - i)
    (fun i => slots [(0, rowB n g), (1, .bool v), (7, i64 n), (8, i64 i)] 0 19) (fun _ => []) 0 [] ⟨Nat.zero_le _, rfl⟩ (by repeat' constructor) rfl ?_
  rintro i ⟨hi, hf⟩
  conv => whnf
  refine branchI (fun hl => ?_) (fun hl => ?_)
  · simp at hl
    rw [first_step hl] at hf
    conv => whnf
    refine branchT (by simp; omega) ?_
    conv => whnf
    refine branchI (fun h1 => ?_) (fun h1 => ?_)
    · have h1 : (v == g i) = true := h1
      rw [if_pos h1] at hf
      conv => whnf
      exact retI (by rw [hf]; rfl)
    · have h1 : (v == g i) = false := h1
      rw [if_neg (by rw [h1]; simp)] at hf
      conv => whnf
      refine ⟨rfl, i + 1, [], ⟨hl, hf⟩, by omega, rfl, ?_⟩
      repeat' constructor
      exact w64_nat (by omega)
  · simp at hl
    rw [first_end hl] at hf
    conv => whnf
    exact retI (by rw [hf]; rfl)
end Go.Proofs.YtkhbmendaapojaaGreatDoor
/- Plain laws: the edges' map; the faces that a walk reaches. -/
namespace Go.Proofs.YtkhbmendaapojaaGreatDoor
open Go Go.Vx

theorem findM_putM : ∀ (m : List (List Int × Int)) (k : List Int) (v : Int) (k' : List Int), findM (putM m k v) k' = if k' = k then some v else findM m k'
  | [], k, v, k' => by
    simp only [putM, findM]
  | (k1, v1) :: m, k, v, k' => by
    simp only [putM]
    by_cases h : k = k1
    · rw [if_pos h]
      simp only [findM]
      subst h
      by_cases h2 : k' = k
      · rw [if_pos h2, if_pos h2]
      · rw [if_neg h2, if_neg h2, if_neg h2]
    · rw [if_neg h]
      simp only [findM]
      by_cases h2 : k' = k1
      · rw [if_pos h2, if_pos h2, if_neg (fun e => h (e.symm.trans h2))]
      · rw [if_neg h2, if_neg h2, findM_putM m k v k']
theorem hasM_putM (m : List (List Int × Int)) (k : List Int) (v : Int) (k' : List Int) : hasM (putM m k v) k' = (decide (k' = k) || hasM m k') := by
  unfold hasM
  rw [findM_putM]
  by_cases h : k' = k
  · simp [h]
  · simp [h]

def putF (F : Nat → Nat → Int) (k : Nat) (m : List (List Int × Int)) : List (List Int × Int) :=
  putM (putM (putM m [F k 0, F k 1] k) [F k 1, F k 2] k) [F k 2, F k 0] k
def dupF (F : Nat → Nat → Int) (k : Nat) (m : List (List Int × Int)) : Bool :=
  hasM m [F k 0, F k 1] || hasM (putM m [F k 0, F k 1] k) [F k 1, F k 2] || hasM (putM (putM m [F k 0, F k 1] k) [F k 1, F k 2] k) [F k 2, F k 0]
def mapN (F : Nat → Nat → Int) : Nat → List (List Int × Int)
  | 0 => []
  | k + 1 => putF F k (mapN F k)
theorem mapN_lt {F : Nat → Nat → Int} : ∀ {n : Nat} {k : List Int} {v : Int}, findM (mapN F n) k = some v → 0 ≤ v ∧ v < n
  | 0, _, _, h => by simp [mapN, findM] at h
  | n + 1, k, v, h => by
    simp only [mapN, putF, findM_putM] at h
    have key : ∀ {c : Prop} [Decidable c] {o : Option Int}, (if c then some (n : Int) else o) = some v → v = n ∨ o = some v := by
      intro c _ o h
      split at h
      · injection h with h; exact .inl h.symm
      · exact .inr h
    rcases key h with h | h
    · omega
    rcases key h with h | h
    · omega
    rcases key h with h | h
    · omega
    have := mapN_lt h; omega
def openF (F : Nat → Nat → Int) (m : List (List Int × Int)) (k : Nat) : Bool :=
  !hasM m [F k 1, F k 0] || !hasM m [F k 2, F k 1] || !hasM m [F k 0, F k 2]
theorem valOr_lt {F : Nat → Nat → Int} {n : Nat} {k : List Int} (h : hasM (mapN F n) k = true) : 0 ≤ valOr (mapN F n) k ∧ valOr (mapN F n) k < n := by
  unfold hasM at h
  unfold valOr
  split at h
  · rename_i v hv; exact mapN_lt hv
  · cases h
/-- The faces beside a face. -/
def nb (F : Nat → Nat → Int) (m : List (List Int × Int)) (f : Nat) : List Int :=
  [valOr m [F f 1, F f 0], valOr m [F f 2, F f 1], valOr m [F f 0, F f 2]]
theorem nb_lt {F : Nat → Nat → Int} {n f : Nat} (h : openF F (mapN F n) f = false) : ∀ g ∈ nb F (mapN F n) f, 0 ≤ g ∧ g < n := by
  simp only [openF, Bool.or_eq_false_iff, Bool.not_eq_false'] at h
  obtain ⟨⟨h1, h2⟩, h3⟩ := h
  intro g hg
  simp only [nb, List.mem_cons, List.not_mem_nil, or_false] at hg
  rcases hg with rfl | rfl | rfl
  · exact valOr_lt h1
  · exact valOr_lt h2
  · exact valOr_lt h3
inductive Reach (N : Nat → List Int) : Nat → Prop
  | zero : Reach N 0
  | step (f : Nat) (g : Int) : Reach N f → g ∈ N f → Reach N g.toNat
/-- How many places below n are not reached. -/
def cntN (R : Nat → Nat → Bool) : Nat → Nat
  | 0 => 0
  | n + 1 => cntN R n + (if R n 0 then 0 else 1)
theorem cntN_le {R : Nat → Nat → Bool} : ∀ {n}, cntN R n ≤ n
  | 0 => Nat.le_refl _
  | n + 1 => by have := @cntN_le R n; simp only [cntN]; split <;> omega
theorem cntN_same {R : Nat → Nat → Bool} {f : Nat} (h : R f 0 = true) : ∀ {n}, cntN (up2 R f 0 true) n = cntN R n
  | 0 => rfl
  | n + 1 => by
    simp only [cntN, cntN_same h (n := n), up2]
    by_cases hn : n = f
    · subst hn; simp [h]
    · simp [hn]
theorem cntN_above {R : Nat → Nat → Bool} {f : Nat} : ∀ {n}, n ≤ f → cntN (up2 R f 0 true) n = cntN R n
  | 0, _ => rfl
  | n + 1, h => by
    simp only [cntN, cntN_above (R := R) (f := f) (n := n) (by omega), up2]
    simp [show ¬ n = f by omega]
theorem cntN_less {R : Nat → Nat → Bool} {f : Nat} (h : R f 0 = false) : ∀ {n}, f < n → cntN (up2 R f 0 true) n + 1 = cntN R n
  | 0, h2 => by omega
  | n + 1, h2 => by
    simp only [cntN, up2]
    by_cases hn : n = f
    · subst hn; have := cntN_above (R := R) (f := n) (n := n) (Nat.le_refl _); simp [h]; omega
    · have := cntN_less h (n := n) (by omega); simp [hn]; omega

/-- The stack (n, s) becomes (n', s'): of the faces l, those that R does not have are laid on it. -/
inductive Pushed (R : Nat → Nat → Bool) : List Int → Nat → (Nat → Nat → Int) → Nat → (Nat → Nat → Int) → Prop
  | nil {n s} : Pushed R [] n s n s
  | skip {g l n s n' s'} : R g.toNat 0 = true → Pushed R l n s n' s' → Pushed R (g :: l) n s n' s'
  | push {g l n s s1 n' s'} : R g.toNat 0 = false → (∀ i, i < n → s1 i 0 = s i 0) → s1 n 0 = g → Pushed R l (n + 1) s1 n' s' → Pushed R (g :: l) n s n' s'
theorem Pushed.facts {R : Nat → Nat → Bool} {l n s n' s'} (h : Pushed R l n s n' s') : n ≤ n' ∧ n' ≤ n + l.length ∧ (∀ i, i < n → s' i 0 = s i 0) ∧
    (∀ i, n ≤ i → i < n' → s' i 0 ∈ l ∧ R (s' i 0).toNat 0 = false) ∧ (∀ g ∈ l, R g.toNat 0 = true ∨ ∃ i, n ≤ i ∧ i < n' ∧ s' i 0 = g) ∧ ((∀ g ∈ l, R g.toNat 0 = true) → n' = n) := by
  induction h with
  | nil => exact ⟨Nat.le_refl _, by simp, fun _ _ => rfl, fun i h1 h2 => by omega, fun g hg => by simp at hg, fun _ => rfl⟩
  | @skip g l n s n' s' h1 _ ih =>
    obtain ⟨a1, a2, a3, a4, a5, a6⟩ := ih
    refine ⟨a1, by simp only [List.length_cons]; omega, a3, fun i g1 g2 => ⟨List.mem_cons_of_mem _ (a4 i g1 g2).1, (a4 i g1 g2).2⟩, fun x hx => ?_, fun hx => a6 fun x hm => hx x (List.mem_cons_of_mem _ hm)⟩
    rcases List.mem_cons.1 hx with rfl | hx
    · exact .inl h1
    · exact a5 x hx
  | @push g l n s s1 n' s' h1 h2 h3 _ ih =>
    obtain ⟨a1, a2, a3, a4, a5, a6⟩ := ih
    refine ⟨by omega, by simp only [List.length_cons]; omega, fun i hi => by rw [a3 i (by omega), h2 i hi], fun i g1 g2 => ?_, fun x hx => ?_, fun hx => ?_⟩
    · by_cases hi : i = n
      · subst hi
        rw [a3 i (by omega), h3]
        exact ⟨List.mem_cons_self, h1⟩
      · exact ⟨List.mem_cons_of_mem _ (a4 i (by omega) g2).1, (a4 i (by omega) g2).2⟩
    · rcases List.mem_cons.1 hx with rfl | hx
      · exact .inr ⟨n, Nat.le_refl _, by omega, by rw [a3 n (by omega), h3]⟩
      · rcases a5 x hx with h | ⟨i, b1, b2, b3⟩
        · exact .inl h
        · exact .inr ⟨i, by omega, b2, b3⟩
    · have := hx g List.mem_cons_self
      rw [h1] at this; cases this

/-- What holds at the head of each round. -/
structure DInv (N : Nat → List Int) (nf : Nat) (R : Nat → Nat → Bool) (n : Nat) (s : Nat → Nat → Int) : Prop where
  dom : ∀ i, i < n → 0 ≤ s i 0 ∧ s i 0 < nf
  sure : ∀ i, i < n → Reach N (s i 0).toNat
  got : ∀ f, R f 0 = true → f < nf ∧ Reach N f
  start : R 0 0 = true ∨ ∃ i, i < n ∧ s i 0 = 0
  next : ∀ f, R f 0 = true → ∀ g ∈ N f, R g.toNat 0 = true ∨ ∃ i, i < n ∧ s i 0 = g
  above : ∀ i, i < n → R (s i 0).toNat 0 = true → ∀ g ∈ N (s i 0).toNat, R g.toNat 0 = true ∨ ∃ j, i < j ∧ j < n ∧ s j 0 = g
theorem DInv.step {N : Nat → List Int} {nf : Nat} {R : Nat → Nat → Bool} {n : Nat} {s : Nat → Nat → Int} {n' : Nat} {s' : Nat → Nat → Int} (h : DInv N nf R (n + 1) s)
    (hN : ∀ f, f < nf → ∀ g ∈ N f, 0 ≤ g ∧ g < nf) (h3 : ∀ f, (N f).length = 3)
    (hp : Pushed (up2 R (s n 0).toNat 0 true) (N (s n 0).toNat) n s n' s') :
    DInv N nf (up2 R (s n 0).toNat 0 true) n' s' ∧ 4 * cntN (up2 R (s n 0).toNat 0 true) nf + n' < 4 * cntN R nf + (n + 1) := by
  obtain ⟨a1, a2, a3, a4, a5, a6⟩ := hp.facts
  rw [h3] at a2
  obtain ⟨d1, d2⟩ := h.dom n (by omega)
  have hf : (s n 0).toNat < nf := by omega
  have hup : ∀ x, up2 R (s n 0).toNat 0 true x 0 = true ↔ x = (s n 0).toNat ∨ R x 0 = true := by
    intro x; simp only [up2]; by_cases hx : x = (s n 0).toNat <;> simp [hx]
  refine ⟨⟨?_, ?_, ?_, ?_, ?_, ?_⟩, ?_⟩
  · intro i hi
    by_cases hin : i < n
    · rw [a3 i hin]; exact h.dom i (by omega)
    · exact hN _ hf _ (a4 i (by omega) hi).1
  · intro i hi
    by_cases hin : i < n
    · rw [a3 i hin]; exact h.sure i (by omega)
    · exact .step _ _ (h.sure n (by omega)) (a4 i (by omega) hi).1
  · intro f hf'
    rcases (hup f).1 hf' with rfl | hf'
    · exact ⟨hf, h.sure n (by omega)⟩
    · exact h.got f hf'
  · rcases h.start with h0 | ⟨i, h1, h2⟩
    · exact .inl ((hup 0).2 (.inr h0))
    · by_cases hi : i = n
      · subst hi; exact .inl ((hup 0).2 (.inl (by rw [h2]; rfl)))
      · exact .inr ⟨i, by omega, by rw [a3 i (by omega), h2]⟩
  · intro f hf' g hg
    rcases (hup f).1 hf' with rfl | hf'
    · rcases a5 g hg with r | ⟨i, b1, b2, b3⟩
      · exact .inl r
      · exact .inr ⟨i, b2, b3⟩
    · rcases h.next f hf' g hg with r | ⟨i, b1, b2⟩
      · exact .inl ((hup _).2 (.inr r))
      · by_cases hi : i = n
        · subst hi; exact .inl ((hup _).2 (.inl (by rw [b2])))
        · exact .inr ⟨i, by omega, by rw [a3 i (by omega), b2]⟩
  · intro i hi hr g hg
    by_cases hin : i < n
    · rw [a3 i hin] at hr hg
      by_cases he : (s i 0).toNat = (s n 0).toNat
      · rw [he] at hg
        rcases a5 g hg with r | ⟨j, b1, b2, b3⟩
        · exact .inl r
        · exact .inr ⟨j, by omega, b2, b3⟩
      · rcases (hup _).1 hr with r | r
        · exact absurd r he
        · rcases h.above i (by omega) r g hg with q | ⟨j, b1, b2, b3⟩
          · exact .inl ((hup _).2 (.inr q))
          · by_cases hj : j = n
            · subst hj; exact .inl ((hup _).2 (.inl (by rw [b3])))
            · exact .inr ⟨j, b1, by omega, by rw [a3 j (by omega), b3]⟩
    · have := (a4 i (by omega) hi).2
      rw [this] at hr; cases hr
  · cases hc : R (s n 0).toNat 0 with
    | false => have := cntN_less hc hf; omega
    | true =>
      rw [cntN_same hc]
      have : n' = n := a6 fun g hg => by
        rcases h.above n (by omega) hc g hg with r | ⟨j, b1, b2, b3⟩
        · exact (hup _).2 (.inr r)
        · omega
      omega
theorem DInv.done {N : Nat → List Int} {nf : Nat} {R : Nat → Nat → Bool} {s : Nat → Nat → Int} (h : DInv N nf R 0 s) (f : Nat) : R f 0 = true ↔ Reach N f := by
  refine ⟨fun hf => (h.got f hf).2, fun hf => ?_⟩
  induction hf with
  | zero => rcases h.start with h0 | ⟨i, h1, _⟩
            · exact h0
            · omega
  | step f g _ hg ih => rcases h.next f ih g hg with r | ⟨i, h1, _⟩
                        · exact r
                        · omega
theorem DInv.zero {N : Nat → List Int} {nf : Nat} (h : 0 < nf) (s : Nat → Nat → Int) (hs : s 0 0 = 0) : DInv N nf (fun _ _ => false) 1 s := by
  refine ⟨?_, ?_, ?_, ?_, ?_, ?_⟩
  · intro i hi
    have : i = 0 := by omega
    subst this; rw [hs]; omega
  · intro i hi
    have : i = 0 := by omega
    subst this; rw [hs]; exact .zero
  · intro f hf; cases hf
  · exact .inr ⟨0, by omega, hs⟩
  · intro f hf; cases hf
  · intro i _ hr; cases hr
end Go.Proofs.YtkhbmendaapojaaGreatDoor
/- The first flaw of a mesh; the edges' map. -/
namespace Go.Proofs.YtkhbmendaapojaaGreatDoor
open Go Go.Vx
set_option maxRecDepth 100000
attribute [local irreducible] CallV LoopV CodeV
def usedN (F : Nat → Nat → Int) : Nat → Nat → Nat → Bool
  | 0 => fun _ _ => false
  | k + 1 => up2 (up2 (up2 (usedN F k) (F k 0).toNat 0 true) (F k 1).toNat 0 true) (F k 2).toNat 0 true
open Classical in
noncomputable def reachN (F : Nat → Nat → Int) (nf : Nat) (f : Nat) : Bool := decide (Reach (nb F (mapN F nf)) f)
noncomputable def flawS (np : Nat) (P : Nat → Nat → Int) (nf : Nat) (F : Nat → Nat → Int) : Int × Int :=
  if 0 < (singleS np P nf F).1 then singleS np P nf F else
  match first (fun i => dupF F i (mapN F i)) 0 nf with
  | some i => (5, i)
  | none => match first (fun i => openF F (mapN F nf) i) 0 nf with
    | some i => (6, i)
    | none => match first (fun i => false == usedN F nf i 0) 0 np with
      | some i => (7, i)
      | none => match first (fun i => false == reachN F nf i) 0 nf with
        | some i => (8, i)
        | none => (0, 0)
abbrev edgeB (m : List (List Int × Int)) : Blk := .map true [.i64, .i64] (.int .i64) m
abbrev FlK (np : Nat) (P : Nat → Nat → Int) (nf : Nat) (F : Nat → Nat → Int) : Out → List Blk → Prop :=
  fun o L => o = .ret (.tup [i64 (flawS np P nf F).1, i64 (flawS np P nf F).2]) ∧
    ((0 < (flawS np P nf F).1 ∧ L = [bodyB np P nf F .any]) ∨ ((flawS np P nf F).1 = 0 ∧ L = [bodyB np P nf F (.map 1), edgeB (mapN F nf)]))
theorem fl_end {np : Nat} {P : Nat → Nat → Int} {nf : Nat} {F : Nat → Nat → Int} {a b : Int} {e : V} {L : List Blk} (h : flawS np P nf F = (a, b)) (hL : Nat.ble (len L) 899998 = true) (ha : 0 < a) :
    ∃ (v v' : V) (M : List Blk) (xs : List Nat), Out.ret (.tup [i64 a, i64 b]) = .ret v ∧ Nat.ble (len (bodyB np P nf F e :: L)) 900000 = true ∧ leS 1 [v] (bodyB np P nf F e :: L) [v'] M xs ∧ FlK np P nf F (.ret v') M := by
  refine ⟨_, .tup [i64 a, i64 b], [bodyB np P nf F .any], [], rfl, ?_, ?_, by rw [h], .inl ⟨by rw [h]; exact ha, rfl⟩⟩
  · have := Nat.le_of_ble_eq_true hL
    exact Nat.ble_eq.mpr (by simp only [len]; omega)
  · repeat' constructor
theorem fl_end0 {np : Nat} {P : Nat → Nat → Int} {nf : Nat} {F : Nat → Nat → Int} {b1 b2 b3 : Blk} {L : List Blk} (h : flawS np P nf F = (0, 0)) (hL : Nat.ble (len L) 899990 = true) :
    ∃ (v v' : V) (M : List Blk) (xs : List Nat), Out.ret (.tup [i64 0, i64 0]) = .ret v ∧ Nat.ble (len (bodyB np P nf F (.map 4) :: b1 :: b2 :: b3 :: edgeB (mapN F nf) :: L)) 900000 = true ∧
      leS 1 [v] (bodyB np P nf F (.map 4) :: b1 :: b2 :: b3 :: edgeB (mapN F nf) :: L) [v'] M xs ∧ FlK np P nf F (.ret v') M := by
  refine ⟨_, .tup [i64 0, i64 0], [bodyB np P nf F (.map 1), edgeB (mapN F nf)], [4], rfl, ?_, ?_, by rw [h], .inr ⟨by rw [h], rfl⟩⟩
  · have := Nat.le_of_ble_eq_true hL
    exact Nat.ble_eq.mpr (by simp only [len]; omega)
  · repeat' constructor
theorem msingle_ok {np : Nat} {P : Nat → Nat → Int} {nf : Nat} {F : Nat → Nat → Int} (h : ¬ 0 < (singleS np P nf F).1) :
    (4 ≤ np ∧ np ≤ 300) ∧ (4 ≤ nf ∧ nf ≤ 600) ∧ (∀ i, i < np → far3 (P i 0) (P i 1) (P i 2) = false) ∧ (∀ k, k < nf → badF np (F k 0) (F k 1) (F k 2) = false) ∧ (∀ k, k < nf → flatF P (F k 0) (F k 1) (F k 2) = false) := by
  unfold singleS at h
  split at h
  · exact absurd (by simp) h
  rename_i h1
  split at h
  · exact absurd (by simp) h
  rename_i h2
  split at h
  · exact absurd (by simp) h
  rename_i h3
  split at h
  · exact absurd (by simp) h
  rename_i h4
  split at h
  · exact absurd (by simp) h
  rename_i h5
  exact ⟨by omega, by omega, fun i hi => first_none h3 i (Nat.zero_le _) (by omega), fun i hi => first_none h4 i (Nat.zero_le _) (by omega), fun i hi => first_none h5 i (Nat.zero_le _) (by omega)⟩
theorem index_pure0 (n : Nat) (g : Nat → Bool) (v : Bool) (hn : n < 4611686018427387904) : Pure Tryz.prog 64 [rowB n (fun i => g (0 + i)), .bool v] (fun o => o = .ret (i64 (placeO (first (fun i => v == g i) 0 n)))) := by
  simp only [Nat.zero_add]
  exact index_pure n g v hn
theorem placeO_neg {o : Option Nat} (h : decide (0 ≤ placeO o) = false) : o = none := by
  cases o with
  | none => rfl
  | some i => exact absurd h (by simp [placeO])
theorem placeO_pos {o : Option Nat} (h : decide (0 ≤ placeO o) = true) : ∃ i : Nat, o = some i ∧ placeO o = i := by
  cases o with
  | none => exact absurd h (by simp [placeO])
  | some i => exact ⟨i, rfl, rfl⟩
abbrev flM (np : Nat) (P : Nat → Nat → Int) (nf : Nat) (F : Nat → Nat → Int) (m : List (List Int × Int)) : List Blk :=
  [bodyB np P nf F (.map 4), .fix 72 [.ptr 0 0 0], .fix 3 [i64 0], .fix 3 [i64 0], edgeB m]
structure DS where
  n : Nat
  gi : Nat → Nat → Int
  gb : Nat → Nat → Bool
  gs : Nat → Nat → List UInt8
  R : Nat → Nat → Bool
theorem fits8 {n : Nat} (h : n ≤ 100000) : fits 8 n = true := by unfold fits; simp; omega
abbrev S1 (n0 : Nat) (f : Nat → Nat → Int) (g : Int) : Nat → Nat → Int := appF n0 (fun i => f (0 + i)) (fun i c => cInt (nthV [i64 g] ((0 + i) * 1 + c)))
theorem pushed_S1 {R : Nat → Nat → Bool} {l : List Int} {m n0 : Nat} {gi : Nat → Nat → Int} {g g' : Int} {n' : Nat} {s' : Nat → Nat → Int} (h : n0 = m) (hg : g = g') (hR : R g'.toNat 0 = false)
    (rest : Pushed R l (m + 1) (S1 n0 gi g) n' s') : Pushed R (g' :: l) m gi n' s' := by
  subst h; subst hg
  refine .push hR (fun i hi => ?_) ?_ rest
  · show appF n0 (fun i => gi (0 + i)) _ i 0 = _
    rw [appF_lt hi, Nat.zero_add]
  · show appF n0 (fun i => gi (0 + i)) _ n0 0 = _
    have : Nat.blt n0 n0 = false := by
      cases h : Nat.blt n0 n0 with
      | false => rfl
      | true => exact absurd (Nat.le_of_ble_eq_true h) (by omega)
    simp only [appF, this, Nat.sub_self]
    rfl
theorem dfs_leaf {N : Nat → List Int} {nf : Nat} {R : Nat → Nat → Bool} {m : Nat} {gi : Nat → Nat → Int} {T : DS → List V} {M : DS → List Blk} {tm' : List V} {L' : List Blk} {n0 : Nat}
    (hI : DInv N nf R (m + 1) gi) (hb : 4 * cntN R nf + (m + 1) ≤ 4 * nf + 1) (hN : ∀ f, f < nf → ∀ g ∈ N f, 0 ≤ g ∧ g < nf) (h3 : ∀ f, (N f).length = 3)
    (n' : Nat) (n2 : Nat) (s' : Nat → Nat → Int) (gb : Nat → Nat → Bool) (gs : Nat → Nat → List UInt8) (R2 : Nat → Nat → Bool) (xs : List Nat) (hn : n2 = n') (hR : R2 = up2 R (gi m 0).toNat 0 true)
    (hp : Pushed (up2 R (gi m 0).toNat 0 true) (N (gi m 0).toNat) m gi n' s') (hbig : Nat.ble (len L') 900000 = true)
    (hle : leS n0 tm' L' (T ⟨n2, s', gb, gs, R2⟩) (M ⟨n2, s', gb, gs, R2⟩) xs) :
    ([] : List DV) = [] ∧ ∃ s' xs, (DInv N nf s'.R s'.n s'.gi ∧ 4 * cntN s'.R nf + s'.n ≤ 4 * nf + 1) ∧ 4 * cntN s'.R nf + s'.n < 4 * cntN R nf + (m + 1) ∧ Nat.ble (len L') 900000 = true ∧ leS n0 tm' L' (T s') (M s') xs := by
  subst hn
  subst hR
  obtain ⟨i1, i2⟩ := hI.step hN h3 hp
  exact ⟨rfl, ⟨n2, s', gb, gs, _⟩, xs, ⟨i1, by show 4 * cntN (up2 R _ 0 true) nf + n2 ≤ _; omega⟩, i2, hbig, hle⟩
set_option maxHeartbeats 8000000 in
theorem flaw_call (np : Nat) (P : Nat → Nat → Int) (nf : Nat) (F : Nat → Nat → Int) :
    CallS Tryz.prog 38 [.ptr 0 0 0] [bodyB np P nf F .nilMap] (FlK np P nf F) := by
  refine callS_tidy rfl (callS_of_code (E := Tryz.E) Tryz.tok Tryz.func38 rfl ((good Tryz.eok 300).2.2.1 none _ _ _ _ _ ?_))
  conv => whnf
  refine callS_frame (single_call np P nf F) [0] (by repeat' constructor) rfl rfl rfl rfl ?_
  rintro _ _ ⟨rfl, rfl⟩
  refine ⟨rfl, rfl, rfl, rfl, ?_⟩
  conv => whnf
  refine branchI (fun h1 => ?_) (fun h1 => ?_)
  · have h1 : decide (0 < (singleS np P nf F).1) = true := h1
    conv => whnf
    exact fl_end (by rw [flawS, if_pos (of_decide_eq_true h1)]) rfl (of_decide_eq_true h1)
  have h1 : decide (0 < (singleS np P nf F).1) = false := h1
  have h1 := of_decide_eq_false h1
  obtain ⟨⟨np1, np2⟩, ⟨nf1, nf2⟩, -, hbad, -⟩ := msingle_ok h1
  have hS : flawS np P nf F = (match first (fun i => dupF F i (mapN F i)) 0 nf with
    | some i => (5, (i : Int))
    | none => match first (fun i => openF F (mapN F nf) i) 0 nf with
      | some i => (6, (i : Int))
      | none => match first (fun i => false == usedN F nf i 0) 0 np with
        | some i => (7, (i : Int))
        | none => match first (fun i => false == reachN F nf i) 0 nf with
          | some i => (8, (i : Int))
          | none => (0, 0)) := by rw [flawS, if_neg h1]
  conv => whnf
  refine loop_inv Tryz.eok 250 (fun i : Nat => i ≤ nf ∧ first (fun i => dupF F i (mapN F i)) 0 nf = first (fun i => dupF F i (mapN F i)) i (nf - i)) (fun i => nf - i)
    (fun i => slots [(0, .ptr 0 0 0), (1, .ptr 1 0 0), (2, .ptr 2 0 0), (3, .ptr 3 0 0), (41, rows3 nf F), (42, i64 nf), (43, i64 i)] 0 176) (fun i => flM np P nf F (mapN F i)) 0 [] ⟨Nat.zero_le _, rfl⟩ (by repeat' constructor) rfl ?_
  rintro k ⟨hk, hfk⟩
  conv => whnf
  refine branchI (fun hl => ?_) (fun hl => ?_)
  · simp at hl
    rw [first_step hl] at hfk
    conv => whnf
    refine branchT (by simp; omega) ?_
    conv => whnf
    refine loop_unroll Tryz.eok 100 5 ?_
    have dup : dupF F k (mapN F k) = true → flawS np P nf F = (5, (k : Int)) := fun hb => by rw [if_pos hb] at hfk; rw [hS, hfk]
    conv => whnf
    refine branchI (fun d1 => ?_) (fun d1 => ?_)
    · have d1 : hasM (mapN F k) [F k 0, F k 1] = true := d1
      conv => whnf
      exact fl_end (dup (by simp only [dupF, d1, Bool.true_or])) rfl (by decide)
    have d1 : hasM (mapN F k) [F k 0, F k 1] = false := d1
    conv => whnf
    refine branchI (fun d2 => ?_) (fun d2 => ?_)
    · have d2 : hasM (putM (mapN F k) [F k 0, F k 1] k) [F k 1, F k 2] = true := d2
      conv => whnf
      exact fl_end (dup (by simp only [dupF, d2, Bool.true_or, Bool.or_true])) rfl (by decide)
    have d2 : hasM (putM (mapN F k) [F k 0, F k 1] k) [F k 1, F k 2] = false := d2
    conv => whnf
    refine branchI (fun d3 => ?_) (fun d3 => ?_)
    · have d3 : hasM (putM (putM (mapN F k) [F k 0, F k 1] k) [F k 1, F k 2] k) [F k 2, F k 0] = true := d3
      conv => whnf
      exact fl_end (dup (by simp only [dupF, d3, Bool.or_true])) rfl (by decide)
    have d3 : hasM (putM (putM (mapN F k) [F k 0, F k 1] k) [F k 1, F k 2] k) [F k 2, F k 0] = false := d3
    have hd : dupF F k (mapN F k) = false := by
      simp only [dupF, d1, d2, d3, Bool.or_false]
    rw [if_neg (by rw [hd]; simp)] at hfk
    conv => whnf
    refine ⟨rfl, k + 1, [], ⟨hl, hfk⟩, by omega, rfl, ?_⟩
    repeat' constructor
    exact w64_nat (by omega)
  simp at hl
  rw [first_end hl] at hfk
  rw [hfk] at hS
  simp only at hS
  obtain rfl : nf = k := by omega
  conv => whnf
  refine branchT (by rw [show (Tryz.E.T 4).bytes = 1 from rfl]; simp; omega) ?_
  conv => whnf
  refine loop_inv Tryz.eok 250 (fun i : Nat => i ≤ nf ∧ first (fun i => openF F (mapN F nf) i) 0 nf = first (fun i => openF F (mapN F nf) i) i (nf - i)) (fun i => nf - i)
    (fun i => slots [(0, .ptr 0 0 0), (1, .ptr 1 0 0), (2, .ptr 2 0 0), (3, .ptr 3 0 0), (11, .ptr 6 0 0), (80, rows3 nf F), (81, i64 nf), (82, i64 i)] 0 176)
    (fun i => flM np P nf F (mapN F nf) ++ [.arr 4 [.bool] (fun _ _ => 0) (usedN F i) (fun _ _ => []), .fix 96 [.sl 5 1 0 np np]]) 0 [] ⟨Nat.zero_le _, rfl⟩ (by repeat' constructor) rfl ?_
  rintro k ⟨hk, hfk⟩
  conv => whnf
  refine branchI (fun hl => ?_) (fun hl => ?_)
  · simp at hl
    obtain ⟨b0, b1, b2, _⟩ := badF_false (hbad k hl)
    rw [first_step hl] at hfk
    conv => whnf
    refine branchT (by simp; omega) ?_
    have opn : openF F (mapN F nf) k = true → flawS np P nf F = (6, (k : Int)) := fun hb => by rw [if_pos hb] at hfk; rw [hS, hfk]
    conv => whnf
    refine loop_unroll Tryz.eok 100 5 ?_
    conv => whnf
    refine branchI (fun d1 => ?_) (fun d1 => ?_)
    · have d1 : (!hasM (mapN F nf) [F k 1, F k 0]) = true := d1
      conv => whnf
      exact fl_end (opn (by simp only [openF, d1, Bool.true_or])) rfl (by decide)
    have d1 : (!hasM (mapN F nf) [F k 1, F k 0]) = false := d1
    conv => whnf
    refine branchT (guardI b0) ?_
    conv => whnf
    refine branchI (fun d2 => ?_) (fun d2 => ?_)
    · have d2 : (!hasM (mapN F nf) [F k 2, F k 1]) = true := d2
      conv => whnf
      exact fl_end (opn (by simp only [openF, d2, Bool.true_or, Bool.or_true])) rfl (by decide)
    have d2 : (!hasM (mapN F nf) [F k 2, F k 1]) = false := d2
    conv => whnf
    refine branchT (guardI b1) ?_
    conv => whnf
    refine branchI (fun d3 => ?_) (fun d3 => ?_)
    · have d3 : (!hasM (mapN F nf) [F k 0, F k 2]) = true := d3
      conv => whnf
      exact fl_end (opn (by simp only [openF, d3, Bool.or_true])) rfl (by decide)
    have d3 : (!hasM (mapN F nf) [F k 0, F k 2]) = false := d3
    have hd : openF F (mapN F nf) k = false := by simp only [openF, d1, d2, d3, Bool.or_false]
    rw [if_neg (by rw [hd]; simp)] at hfk
    conv => whnf
    refine branchT (guardI b2) ?_
    conv => whnf
    refine ⟨rfl, k + 1, [], ⟨hl, hfk⟩, by omega, rfl, ?_⟩
    repeat' constructor
    · exact w64_nat (by omega)
    · simp only [Nat.zero_add]; rfl
  simp at hl
  rw [first_end hl] at hfk
  rw [hfk] at hS
  simp only at hS
  obtain rfl : nf = k := by omega
  have hopen : ∀ k, k < nf → openF F (mapN F nf) k = false := fun k hk => first_none hfk k (Nat.zero_le _) (by omega)
  conv => whnf
  refine callP1 (index_pure0 np (fun i => usedN F nf i 0) false (by omega)) rfl ?_
  conv => whnf
  refine branchI (fun hu => ?_) (fun hu => ?_)
  · have hu : decide (0 ≤ placeO (first (fun i => false == usedN F nf i 0) 0 np)) = true := hu
    obtain ⟨j, hj, hj2⟩ := placeO_pos hu
    conv => whnf
    exact fl_end (by rw [hS, hj]; rfl) rfl (by decide)
  have hu : decide (0 ≤ placeO (first (fun i => false == usedN F nf i 0) 0 np)) = false := hu
  rw [placeO_neg hu] at hS
  simp only at hS
  conv => whnf
  refine branchT (by rw [show (Tryz.E.T 4).bytes = 1 from rfl]; simp; omega) ?_
  conv => whnf
  refine loop_inv Tryz.eok 250 (fun s : DS => DInv (nb F (mapN F nf)) nf s.R s.n s.gi ∧ 4 * cntN s.R nf + s.n ≤ 4 * nf + 1) (fun s => 4 * cntN s.R nf + s.n)
    (fun s => slots [(0, .ptr 0 0 0), (1, .ptr 1 0 0), (2, .ptr 2 0 0), (3, .ptr 3 0 0), (18, .ptr 8 0 0), (19, .ptr 12 0 0)] 0 176)
    (fun s => flM np P nf F (mapN F nf) ++ [.dead, .dead, .arr 4 [.bool] (fun _ _ => 0) s.R (fun _ _ => []), .fix 96 [.sl 7 1 0 nf nf], .dead, .dead, .arr 3 [.int .i64] s.gi s.gb s.gs, .fix 89 [.sl 11 1 0 s.n s.n]])
    ⟨1, fun i c => cInt (nthV [i64 0] (i * 1 + c)), fun i c => cBool (nthV [i64 0] (i * 1 + c)), fun i c => cStr (nthV [i64 0] (i * 1 + c)), fun _ _ => false⟩ [9, 10] ⟨DInv.zero (by omega) _ rfl, by have := @cntN_le (fun _ _ => false) nf; show 4 * cntN (fun _ _ => false) nf + 1 ≤ _; omega⟩ (by repeat' constructor) rfl ?_
  rintro ⟨n, gi, gb, gs, R⟩ ⟨hI, hb⟩
  have hI : DInv (nb F (mapN F nf)) nf R n gi := hI
  have hb : 4 * cntN R nf + n ≤ 4 * nf + 1 := hb
  conv => whnf
  refine branchI (fun hl => ?_) (fun hl => ?_)
  · have hl : decide (0 < (n : Int)) = true := hl
    have hl := of_decide_eq_true hl
    obtain ⟨m, rfl⟩ : ∃ m, n = m + 1 := ⟨n - 1, by omega⟩
    have hm : IntKind.i64.wrap (((m + 1 : Nat) : Int) - 1) = (m : Int) := by rw [w64_in (by omega)]; omega
    obtain ⟨f0, f1⟩ := hI.dom m (by omega)
    have hfv : gi (0 + (IntKind.i64.wrap (((m + 1 : Nat) : Int) - 1)).toNat) 0 = gi m 0 := by rw [hm]; simp
    have hg : (decide (0 ≤ gi (0 + (IntKind.i64.wrap (((m + 1 : Nat) : Int) - 1)).toNat) 0) && decide (gi (0 + (IntKind.i64.wrap (((m + 1 : Nat) : Int) - 1)).toNat) 0 < (nf : Int))) = true := by rw [hfv]; exact guardI ⟨f0, f1⟩
    have hnb := nb_lt (hopen (gi (0 + (IntKind.i64.wrap (((m + 1 : Nat) : Int) - 1)).toNat) 0).toNat (by rw [hfv]; omega))
    simp only [nb, List.mem_cons, List.not_mem_nil, or_false, forall_eq_or_imp, forall_eq] at hnb
    obtain ⟨g0, g1, g2⟩ := hnb
    conv => whnf
    refine branchT (by rw [hm]; simp; omega) ?_
    conv => whnf
    refine branchT (by rw [hm]; simp; omega) ?_
    conv => whnf
    refine branchT hg ?_
    conv => whnf
    refine branchT hg ?_
    conv => whnf
    refine loop_unroll Tryz.eok 100 5 ?_
    conv => whnf
    have hn0 : (IntKind.i64.wrap (((m + 1 : Nat) : Int) - 1)).toNat - Int.toNat 0 = m := by rw [hm]; simp
    have hcap : (IntKind.i64.wrap (((m + 1 : Nat) : Int) - 1)).toNat - Int.toNat 0 ≤ m + 1 - Int.toNat 0 := by rw [hn0]; simp
    have hR2 : up2 R (0 + (gi (0 + (IntKind.i64.wrap (((m + 1 : Nat) : Int) - 1)).toNat) 0).toNat) 0 true = up2 R (gi m 0).toNat 0 true := by rw [hfv, Nat.zero_add]
    have tr : ∀ (a b : Nat) (c : Bool), (!(up2 R (0 + (gi (0 + (IntKind.i64.wrap (((m + 1 : Nat) : Int) - 1)).toNat) 0).toNat) 0 true (0 + (valOr (mapN F nf) [F (gi (0 + (IntKind.i64.wrap (((m + 1 : Nat) : Int) - 1)).toNat) 0).toNat a, F (gi (0 + (IntKind.i64.wrap (((m + 1 : Nat) : Int) - 1)).toNat) 0).toNat b]).toNat) 0)) = c →
        up2 R (gi m 0).toNat 0 true (valOr (mapN F nf) [F (gi m 0).toNat a, F (gi m 0).toNat b]).toNat 0 = !c := by
      intro a b c h
      rw [hfv, Nat.zero_add, Nat.zero_add] at h
      rw [← h, Bool.not_not]
    have te : ∀ (a b : Nat), valOr (mapN F nf) [F (gi (0 + (IntKind.i64.wrap (((m + 1 : Nat) : Int) - 1)).toNat) 0).toNat a, F (gi (0 + (IntKind.i64.wrap (((m + 1 : Nat) : Int) - 1)).toNat) 0).toNat b] = valOr (mapN F nf) [F (gi m 0).toNat a, F (gi m 0).toNat b] := fun a b => by rw [hfv]
    have hN : ∀ f, f < nf → ∀ g ∈ nb F (mapN F nf) f, 0 ≤ g ∧ g < nf := fun f hf => nb_lt (hopen f hf)
    refine branchT (guardI g0) ?_
    conv => whnf
    refine branchI (fun p0 => ?_) (fun p0 => ?_)
    · conv => whnf
      refine branchT (fits8 (by show (IntKind.i64.wrap (((m + 1 : Nat) : Int) - 1)).toNat - Int.toNat 0 + 1 ≤ 100000; rw [hn0]; omega)) ?_
      conv => whnf
      refine branchT (guardI g1) ?_
      conv => whnf
      refine branchI (fun p1 => ?_) (fun p1 => ?_)
      · conv => whnf
        refine branchT (fits8 (by show (IntKind.i64.wrap (((m + 1 : Nat) : Int) - 1)).toNat - Int.toNat 0 + 1 + 1 ≤ 100000; rw [hn0]; omega)) ?_
        conv => whnf
        refine branchT (guardI g2) ?_
        conv => whnf
        refine branchI (fun p2 => ?_) (fun p2 => ?_)
        · conv => whnf
          refine branchT (fits8 (by show (IntKind.i64.wrap (((m + 1 : Nat) : Int) - 1)).toNat - Int.toNat 0 + 1 + 1 + 1 ≤ 100000; rw [hn0]; omega)) ?_
          conv => whnf
          apply dfs_leaf hI hb hN (fun _ => rfl) (m + 3) ((IntKind.i64.wrap (((m + 1 : Nat) : Int) - 1)).toNat - Int.toNat 0 + 1 + 1 + 1) (S1 ((IntKind.i64.wrap (((m + 1 : Nat) : Int) - 1)).toNat - Int.toNat 0 + 1 + 1) (S1 ((IntKind.i64.wrap (((m + 1 : Nat) : Int) - 1)).toNat - Int.toNat 0 + 1) (S1 ((IntKind.i64.wrap (((m + 1 : Nat) : Int) - 1)).toNat - Int.toNat 0) gi (valOr (mapN F nf) [F (gi (0 + (IntKind.i64.wrap (((m + 1 : Nat) : Int) - 1)).toNat) 0).toNat 1, F (gi (0 + (IntKind.i64.wrap (((m + 1 : Nat) : Int) - 1)).toNat) 0).toNat 0])) (valOr (mapN F nf) [F (gi (0 + (IntKind.i64.wrap (((m + 1 : Nat) : Int) - 1)).toNat) 0).toNat 2, F (gi (0 + (IntKind.i64.wrap (((m + 1 : Nat) : Int) - 1)).toNat) 0).toNat 1])) (valOr (mapN F nf) [F (gi (0 + (IntKind.i64.wrap (((m + 1 : Nat) : Int) - 1)).toNat) 0).toNat 0, F (gi (0 + (IntKind.i64.wrap (((m + 1 : Nat) : Int) - 1)).toNat) 0).toNat 2])) _ _ (up2 R (0 + (gi (0 + (IntKind.i64.wrap (((m + 1 : Nat) : Int) - 1)).toNat) 0).toNat) 0 true) [23, 24] (by rw [hn0]) hR2 (pushed_S1 (by rw [hn0]) (te 1 0) (tr 1 0 _ p0) (pushed_S1 (by rw [hn0]) (te 2 1) (tr 2 1 _ p1) (pushed_S1 (by rw [hn0]) (te 0 2) (tr 0 2 _ p2) .nil))) rfl
          repeat' (first | with_reducible exact Nat.le_refl _ | exact rfl | exact Nat.le_refl _ | refine And.intro ?_ ?_)
        · conv => whnf
          apply dfs_leaf hI hb hN (fun _ => rfl) (m + 2) ((IntKind.i64.wrap (((m + 1 : Nat) : Int) - 1)).toNat - Int.toNat 0 + 1 + 1) (S1 ((IntKind.i64.wrap (((m + 1 : Nat) : Int) - 1)).toNat - Int.toNat 0 + 1) (S1 ((IntKind.i64.wrap (((m + 1 : Nat) : Int) - 1)).toNat - Int.toNat 0) gi (valOr (mapN F nf) [F (gi (0 + (IntKind.i64.wrap (((m + 1 : Nat) : Int) - 1)).toNat) 0).toNat 1, F (gi (0 + (IntKind.i64.wrap (((m + 1 : Nat) : Int) - 1)).toNat) 0).toNat 0])) (valOr (mapN F nf) [F (gi (0 + (IntKind.i64.wrap (((m + 1 : Nat) : Int) - 1)).toNat) 0).toNat 2, F (gi (0 + (IntKind.i64.wrap (((m + 1 : Nat) : Int) - 1)).toNat) 0).toNat 1])) _ _ (up2 R (0 + (gi (0 + (IntKind.i64.wrap (((m + 1 : Nat) : Int) - 1)).toNat) 0).toNat) 0 true) [20, 22] (by rw [hn0]) hR2 (pushed_S1 (by rw [hn0]) (te 1 0) (tr 1 0 _ p0) (pushed_S1 (by rw [hn0]) (te 2 1) (tr 2 1 _ p1) (.skip (tr 0 2 _ p2) .nil))) rfl
          repeat' (first | with_reducible exact Nat.le_refl _ | exact rfl | exact Nat.le_refl _ | refine And.intro ?_ ?_)
      · conv => whnf
        refine branchT (guardI g2) ?_
        conv => whnf
        refine branchI (fun p2 => ?_) (fun p2 => ?_)
        · conv => whnf
          refine branchT (fits8 (by show (IntKind.i64.wrap (((m + 1 : Nat) : Int) - 1)).toNat - Int.toNat 0 + 1 + 1 ≤ 100000; rw [hn0]; omega)) ?_
          conv => whnf
          apply dfs_leaf hI hb hN (fun _ => rfl) (m + 2) ((IntKind.i64.wrap (((m + 1 : Nat) : Int) - 1)).toNat - Int.toNat 0 + 1 + 1) (S1 ((IntKind.i64.wrap (((m + 1 : Nat) : Int) - 1)).toNat - Int.toNat 0 + 1) (S1 ((IntKind.i64.wrap (((m + 1 : Nat) : Int) - 1)).toNat - Int.toNat 0) gi (valOr (mapN F nf) [F (gi (0 + (IntKind.i64.wrap (((m + 1 : Nat) : Int) - 1)).toNat) 0).toNat 1, F (gi (0 + (IntKind.i64.wrap (((m + 1 : Nat) : Int) - 1)).toNat) 0).toNat 0])) (valOr (mapN F nf) [F (gi (0 + (IntKind.i64.wrap (((m + 1 : Nat) : Int) - 1)).toNat) 0).toNat 0, F (gi (0 + (IntKind.i64.wrap (((m + 1 : Nat) : Int) - 1)).toNat) 0).toNat 2])) _ _ (up2 R (0 + (gi (0 + (IntKind.i64.wrap (((m + 1 : Nat) : Int) - 1)).toNat) 0).toNat) 0 true) [21, 22] (by rw [hn0]) hR2 (pushed_S1 (by rw [hn0]) (te 1 0) (tr 1 0 _ p0) (.skip (tr 2 1 _ p1) (pushed_S1 (by rw [hn0]) (te 0 2) (tr 0 2 _ p2) .nil))) rfl
          repeat' (first | with_reducible exact Nat.le_refl _ | exact rfl | exact Nat.le_refl _ | refine And.intro ?_ ?_)
        · conv => whnf
          apply dfs_leaf hI hb hN (fun _ => rfl) (m + 1) ((IntKind.i64.wrap (((m + 1 : Nat) : Int) - 1)).toNat - Int.toNat 0 + 1) (S1 ((IntKind.i64.wrap (((m + 1 : Nat) : Int) - 1)).toNat - Int.toNat 0) gi (valOr (mapN F nf) [F (gi (0 + (IntKind.i64.wrap (((m + 1 : Nat) : Int) - 1)).toNat) 0).toNat 1, F (gi (0 + (IntKind.i64.wrap (((m + 1 : Nat) : Int) - 1)).toNat) 0).toNat 0])) _ _ (up2 R (0 + (gi (0 + (IntKind.i64.wrap (((m + 1 : Nat) : Int) - 1)).toNat) 0).toNat) 0 true) [17, 20] (by rw [hn0]) hR2 (pushed_S1 (by rw [hn0]) (te 1 0) (tr 1 0 _ p0) (.skip (tr 2 1 _ p1) (.skip (tr 0 2 _ p2) .nil))) rfl
          repeat' (first | with_reducible exact Nat.le_refl _ | exact rfl | exact Nat.le_refl _ | refine And.intro ?_ ?_)
    · conv => whnf
      refine branchT (guardI g1) ?_
      conv => whnf
      refine branchI (fun p1 => ?_) (fun p1 => ?_)
      · conv => whnf
        refine branchT (fits8 (by show (IntKind.i64.wrap (((m + 1 : Nat) : Int) - 1)).toNat - Int.toNat 0 + 1 ≤ 100000; rw [hn0]; omega)) ?_
        conv => whnf
        refine branchT (guardI g2) ?_
        conv => whnf
        refine branchI (fun p2 => ?_) (fun p2 => ?_)
        · conv => whnf
          refine branchT (fits8 (by show (IntKind.i64.wrap (((m + 1 : Nat) : Int) - 1)).toNat - Int.toNat 0 + 1 + 1 ≤ 100000; rw [hn0]; omega)) ?_
          conv => whnf
          apply dfs_leaf hI hb hN (fun _ => rfl) (m + 2) ((IntKind.i64.wrap (((m + 1 : Nat) : Int) - 1)).toNat - Int.toNat 0 + 1 + 1) (S1 ((IntKind.i64.wrap (((m + 1 : Nat) : Int) - 1)).toNat - Int.toNat 0 + 1) (S1 ((IntKind.i64.wrap (((m + 1 : Nat) : Int) - 1)).toNat - Int.toNat 0) gi (valOr (mapN F nf) [F (gi (0 + (IntKind.i64.wrap (((m + 1 : Nat) : Int) - 1)).toNat) 0).toNat 2, F (gi (0 + (IntKind.i64.wrap (((m + 1 : Nat) : Int) - 1)).toNat) 0).toNat 1])) (valOr (mapN F nf) [F (gi (0 + (IntKind.i64.wrap (((m + 1 : Nat) : Int) - 1)).toNat) 0).toNat 0, F (gi (0 + (IntKind.i64.wrap (((m + 1 : Nat) : Int) - 1)).toNat) 0).toNat 2])) _ _ (up2 R (0 + (gi (0 + (IntKind.i64.wrap (((m + 1 : Nat) : Int) - 1)).toNat) 0).toNat) 0 true) [21, 22] (by rw [hn0]) hR2 (.skip (tr 1 0 _ p0) (pushed_S1 (by rw [hn0]) (te 2 1) (tr 2 1 _ p1) (pushed_S1 (by rw [hn0]) (te 0 2) (tr 0 2 _ p2) .nil))) rfl
          repeat' (first | with_reducible exact Nat.le_refl _ | exact rfl | exact Nat.le_refl _ | refine And.intro ?_ ?_)
        · conv => whnf
          apply dfs_leaf hI hb hN (fun _ => rfl) (m + 1) ((IntKind.i64.wrap (((m + 1 : Nat) : Int) - 1)).toNat - Int.toNat 0 + 1) (S1 ((IntKind.i64.wrap (((m + 1 : Nat) : Int) - 1)).toNat - Int.toNat 0) gi (valOr (mapN F nf) [F (gi (0 + (IntKind.i64.wrap (((m + 1 : Nat) : Int) - 1)).toNat) 0).toNat 2, F (gi (0 + (IntKind.i64.wrap (((m + 1 : Nat) : Int) - 1)).toNat) 0).toNat 1])) _ _ (up2 R (0 + (gi (0 + (IntKind.i64.wrap (((m + 1 : Nat) : Int) - 1)).toNat) 0).toNat) 0 true) [18, 20] (by rw [hn0]) hR2 (.skip (tr 1 0 _ p0) (pushed_S1 (by rw [hn0]) (te 2 1) (tr 2 1 _ p1) (.skip (tr 0 2 _ p2) .nil))) rfl
          repeat' (first | with_reducible exact Nat.le_refl _ | exact rfl | exact Nat.le_refl _ | refine And.intro ?_ ?_)
      · conv => whnf
        refine branchT (guardI g2) ?_
        conv => whnf
        refine branchI (fun p2 => ?_) (fun p2 => ?_)
        · conv => whnf
          refine branchT (fits8 (by show (IntKind.i64.wrap (((m + 1 : Nat) : Int) - 1)).toNat - Int.toNat 0 + 1 ≤ 100000; rw [hn0]; omega)) ?_
          conv => whnf
          apply dfs_leaf hI hb hN (fun _ => rfl) (m + 1) ((IntKind.i64.wrap (((m + 1 : Nat) : Int) - 1)).toNat - Int.toNat 0 + 1) (S1 ((IntKind.i64.wrap (((m + 1 : Nat) : Int) - 1)).toNat - Int.toNat 0) gi (valOr (mapN F nf) [F (gi (0 + (IntKind.i64.wrap (((m + 1 : Nat) : Int) - 1)).toNat) 0).toNat 0, F (gi (0 + (IntKind.i64.wrap (((m + 1 : Nat) : Int) - 1)).toNat) 0).toNat 2])) _ _ (up2 R (0 + (gi (0 + (IntKind.i64.wrap (((m + 1 : Nat) : Int) - 1)).toNat) 0).toNat) 0 true) [19, 20] (by rw [hn0]) hR2 (.skip (tr 1 0 _ p0) (.skip (tr 2 1 _ p1) (pushed_S1 (by rw [hn0]) (te 0 2) (tr 0 2 _ p2) .nil))) rfl
          repeat' (first | with_reducible exact Nat.le_refl _ | exact rfl | exact Nat.le_refl _ | refine And.intro ?_ ?_)
        · conv => whnf
          apply dfs_leaf hI hb hN (fun _ => rfl) m ((IntKind.i64.wrap (((m + 1 : Nat) : Int) - 1)).toNat - Int.toNat 0) gi _ _ (up2 R (0 + (gi (0 + (IntKind.i64.wrap (((m + 1 : Nat) : Int) - 1)).toNat) 0).toNat) 0 true) [11, 18] (by rw [hn0]) hR2 (.skip (tr 1 0 _ p0) (.skip (tr 2 1 _ p1) (.skip (tr 0 2 _ p2) .nil))) rfl
          repeat' (first | with_reducible exact Nat.le_refl _ | exact rfl | exact hcap | refine And.intro ?_ ?_)
  · have hl : decide (0 < (n : Int)) = false := hl
    have hl := of_decide_eq_false hl
    obtain rfl : n = 0 := by omega
    have hR : R = fun f c => R f c := rfl
    have hdone : ∀ f, R f 0 = reachN F nf f := fun f => by
      rw [reachN]
      have := hI.done f
      cases h : R f 0 with
      | true => exact (@decide_eq_true _ (Classical.propDecidable _) (this.1 h)).symm
      | false => exact (@decide_eq_false _ (Classical.propDecidable _) (fun hc => by rw [this.2 hc] at h; cases h)).symm
    have hfe : (fun i => false == R i 0) = fun i => false == reachN F nf i := funext fun f => by rw [hdone]
    conv => whnf
    refine callP1 (index_pure0 nf (fun i => R i 0) false (by omega)) rfl ?_
    rw [hfe]
    conv => whnf
    refine branchI (fun hu => ?_) (fun hu => ?_)
    · have hu : decide (0 ≤ placeO (first (fun i => false == reachN F nf i) 0 nf)) = true := hu
      obtain ⟨j, hj, hj2⟩ := placeO_pos hu
      conv => whnf
      exact fl_end (by rw [hS, hj]; rfl) rfl (by decide)
    have hu : decide (0 ≤ placeO (first (fun i => false == reachN F nf i) 0 nf)) = false := hu
    rw [placeO_neg hu] at hS
    simp only at hS
    conv => whnf
    exact fl_end0 hS rfl
end Go.Proofs.YtkhbmendaapojaaGreatDoor
