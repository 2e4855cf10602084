/- Operators, stores, slices, addresses on abstract values; that the model does what they say. Stores, new rows, slices and indices on abstract values; that the model does what they say. Addresses, slices, lengths, conversions on abstract values; that the model does what they say. Package-level tables of numbers: an element's place. -/
import Derived.Test.YtkhbmendaapojaaGreatDoorPkBa1
set_option linter.unusedSimpArgs false
set_option linter.unusedVariables false
/- Operators, stores, slices, addresses on abstract values; that the model does what they say. -/
namespace Go.Vx
open Go Go.RowKit

/-! ### Operators -/
def intV (op : BinOp) (k : IntKind) (a b : Int) : PR :=
  match op with
  | .add => .val (.int k (k.wrap (a + b)))
  | .sub => .val (.int k (k.wrap (a - b)))
  | .mul => .val (.int k (k.wrap (a * b)))
  | .quo => .grd (!(decide (b = 0))) (.val (.int k (k.wrap (a.tdiv b))))
  | .rem => .grd (!(decide (b = 0))) (.val (.int k (a.tmod b)))
  | .and => .val (.int k (k.wrap (BitVec.ofInt k.bits a &&& BitVec.ofInt k.bits b).toNat))
  | .or => .val (.int k (k.wrap (BitVec.ofInt k.bits a ||| BitVec.ofInt k.bits b).toNat))
  | .xor => .val (.int k (k.wrap (BitVec.ofInt k.bits a ^^^ BitVec.ofInt k.bits b).toNat))
  | .andNot => .val (.int k (k.wrap (BitVec.ofInt k.bits a &&& ~~~BitVec.ofInt k.bits b).toNat))
  | .eql => .val (.bool (a == b))
  | .neq => .val (.bool (a != b))
  | .lss => .val (.bool (decide (a < b)))
  | .leq => .val (.bool (decide (a ≤ b)))
  | .gtr => .val (.bool (decide (b < a)))
  | .geq => .val (.bool (decide (b ≤ a)))
  | _ => .bad

def strV (op : BinOp) (a b : List UInt8) : PR :=
  match op with
  | .add => .grd (decide (((a.length + b.length : Nat) : Int) ≤ 9223372036854775807)) (.val (.str (a ++ b)))
  | .eql => .val (.bool (a == b))
  | .neq => .val (.bool (!(a == b)))
  | .lss => .val (.bool (Op.bytesLess a b))
  | .leq => .val (.bool (Op.bytesLess a b || a == b))
  | .gtr => .val (.bool (!(Op.bytesLess a b || a == b)))
  | .geq => .val (.bool (!Op.bytesLess a b))
  | _ => .bad

def isShift : BinOp → Bool
  | .shl | .shr => true
  | _ => false

def binV (T : Tab) (op : BinOp) (xt : Nat) (x y : V) : PR :=
  match x, y with
  | .int k a, .int k' b => match op with
    | .shl => .grd (decide (0 ≤ b)) (.val (.int k (k.wrap (a * 2 ^ (min b.toNat k.bits)))))
    | .shr => .grd (decide (0 ≤ b)) (.val (.int k (a.fdiv (2 ^ (min b.toNat k.bits)))))
    | op => match ikEq k k' with
      | true => intV op k a b
      | false => .bad
  | .str a, .str b => strV op a b
  | x, y => match op with
    | .eql => match eqV T 60 xt x y with
      | some r => .val (.bool r)
      | none => .bad
    | .neq => match eqV T 60 xt x y with
      | some r => .val (.bool (!r))
      | none => .bad
    | _ => .bad

theorem intArith_ok {P : Program} {w : World} {k : IntKind} {a b : Int} (op : BinOp) {ρ I L} (s : Sem Next)
    (hs : s.run P w = ((binOp op 0 (.int k a) (.int k b)).run P w).andThen fun v w' => .ok (.value v) w') (hsh : isShift op = false) :
    (intV op k a b).Ok P ρ I L w s := by
  cases op <;> simp [isShift] at hsh <;> simp only [intV, PR.Ok] <;> try intro hc
  all_goals first
    | (refine ⟨_, .int _ _, .inl ?_⟩; rw [hs]; simp only [binOp, ne_eq, not_true, if_false, Op.intArith, Sem.run_pure, Result.andThen_ok]; done)
    | (refine ⟨_, .int _ _, .inl ?_⟩; have hb : ¬ b = 0 := (by simpa using hc); rw [hs]; simp only [binOp, ne_eq, not_true, if_false, Op.intDiv, if_neg hb, Sem.run_pure, Result.andThen_ok]; done)
    | (refine ⟨_, .int _ _, .inl ?_⟩; rw [hs]; simp only [binOp, ne_eq, not_true, if_false, Op.intBits, Sem.run_pure, Result.andThen_ok]; done)
    | (refine ⟨_, .bool _, .inl ?_⟩; rw [hs]; simp only [binOp, ne_eq, not_true, if_false, Op.intCmp, Sem.run_pure, Result.andThen_ok]; first | rfl | done)

theorem str_ok {P : Program} {w : World} {sa sb : ByteArray} {a b : List UInt8} (ha : sa.data.toList = a) (hb : sb.data.toList = b) (op : BinOp) {ρ I L} (s : Sem Next)
    (hs : s.run P w = ((Op.stringOp op sa sb).run P w).andThen fun v w' => .ok (.value v) w') :
    (strV op a b).Ok P ρ I L w s := by
  subst ha; subst hb
  have e1 : sa.toList = sa.data.toList := ByteArray.toList_eq sa
  have e2 : sb.toList = sb.data.toList := ByteArray.toList_eq sb
  cases op <;> simp only [strV, PR.Ok] <;> try intro hc
  all_goals first
    | (refine ⟨_, .bool _, .inl ?_⟩; rw [hs]; simp only [Op.stringOp, e1, e2, Sem.run_pure, Result.andThen_ok]; done)
    | skip
  refine ⟨.string (sa ++ sb), .str _ _ (by simp), .inl ?_⟩
  rw [hs]
  have : ¬ (((sa.size + sb.size : Nat) : Int) > IntKind.i64.max) := by
    have h0 : IntKind.i64.max = 9223372036854775807 := by decide
    rw [h0]; simp at hc
    have h1 : sa.size = sa.data.size := rfl
    have h2 : sb.size = sb.data.size := rfl
    omega
  simp only [Op.stringOp, if_neg this, Sem.run_pure, Result.andThen_ok]

theorem run_eqGuard_ne {P : Program} {w : World} {op : BinOp} {t : Nat} {x y : Operand} {a b : Value} (h : ∀ xs ys, ¬ (a = .agg xs ∧ b = .agg ys)) (h' : ¬ (a = .nilIface ∧ b = .nilIface)) :
    (eqGuard op t x y a b).run P w = .ok () w := by
  have key : (match a, b with
      | .nilIface, .nilIface =>
        if (x matches .const _) || (y matches .const _) then pure ()
        else do
          if ← Op.eqGuardIn Op.maxDepth t a b then unsupported (.noEntry "binop/eql: two nil values of an interface type with methods, neither of them the literal nil")
      | .agg _, .agg _ => do
        if !(← program).eqGuardType (← program).depth t then pure ()
        else if ← Op.eqGuardIn Op.maxDepth t a b then unsupported (.noEntry "binop/eql: two nil values of an interface type with methods, in a part of a struct or an array")
      | _, _ => (pure () : Sem Unit)) = pure () := by
    split
    · exact absurd ⟨rfl, rfl⟩ h'
    · rename_i xs ys; exact absurd ⟨rfl, rfl⟩ (h xs ys)
    · rfl
  have e : eqGuard op t x y a b = pure () := by
    cases op <;> first | rfl | exact key
  rw [e]; rfl

theorem run_eqGuard_V {P : Program} {T : Tab} (hT : TOk P T) {w : World} {ρ I} {op : BinOp} {t : Nat} {x y : Operand} {u v : V} {a b : Value} {n : Nat} {r : Bool} (hu : Rel ρ I u a) (hv : Rel ρ I v b) (he : eqV T (n + 1) t u v = some r) :
    (eqGuard op t x y a b).run P w = .ok () w := by
  by_cases hag : ∃ l l', u = .agg l ∧ v = .agg l'
  · obtain ⟨l, l', rfl, rfl⟩ := hag
    cases hu; cases hv
    have hk : (T t).ty.known = true := by cases hy : (T t).ty <;> first | rfl | (simp [eqV, hy] at he)
    have heq : (T t).eq = true := by
      cases h : (T t).eq with
      | true => rfl
      | false => cases hy : (T t).ty <;> simp [eqV, hy, h] at he
    obtain ⟨i, dd, h1, h2, h3, h4, h5, h6, h7⟩ := (hT.ok hk).ex
    exact run_eqGuard_agg w op t x y _ _ (h7 heq).1
  · refine run_eqGuard_ne (fun xs ys => ?_) ?_
    · rintro ⟨rfl, rfl⟩
      cases hu <;> cases hv <;> first | exact hag ⟨_, _, rfl, rfl⟩ | (cases hy : (T t).ty <;> simp [eqV, hy] at he)
    · rintro ⟨rfl, rfl⟩
      cases hu <;> cases hv <;> (cases hy : (T t).ty <;> simp [eqV, hy] at he)

theorem eqV_shape {T : Tab} {n t : Nat} {u v : V} {r : Bool} (h : eqV T (n + 1) t u v = some r) (hi : ∀ k a k' b, u = .int k a → v = .int k' b → False) (hs : ∀ a b, u = .str a → v = .str b → False) :
    (∀ k a, u ≠ .int k a) ∧ (∀ l, u ≠ .str l) ∧ u ≠ .any := by
  refine ⟨?_, ?_, ?_⟩
  · rintro k a rfl
    cases v <;> first | exact hi _ _ _ _ rfl rfl | (cases hy : (T t).ty <;> simp [eqV, hy] at h)
  · rintro l rfl
    cases v <;> first | exact hs _ _ rfl rfl | (cases hy : (T t).ty <;> simp [eqV, hy] at h)
  · rintro rfl
    cases hy : (T t).ty <;> simp [eqV, hy] at h
theorem notNum {ρ I} {u : V} {a : Value} (hu : Rel ρ I u a) (h : (∀ k a, u ≠ .int k a) ∧ (∀ l, u ≠ .str l) ∧ u ≠ .any) :
    (∀ k n, a ≠ .int k n) ∧ (∀ s, a ≠ .string s) ∧ (∀ k n, a ≠ .float k n) ∧ (∀ k n m, a ≠ .complex k n m) := by
  obtain ⟨h1, h2, h3⟩ := h
  refine ⟨?_, ?_, ?_, ?_⟩
  · rintro k n rfl; cases hu <;> first | exact h1 _ _ rfl | exact h3 rfl
  · rintro s rfl; cases hu <;> first | exact h2 _ rfl | exact h3 rfl
  · rintro k n rfl; cases hu; exact h3 rfl
  · rintro k n m rfl; cases hu; exact h3 rfl

theorem binOp_eql {t : Nat} {a b : Value} (h1 : ∀ k n, a ≠ .int k n) (h2 : ∀ s, a ≠ .string s) (h3 : ∀ k n, a ≠ .float k n) (h4 : ∀ k n m, a ≠ .complex k n m) :
    binOp .eql t a b = (do pure (.bool (← Op.equal t a b))) ∧ binOp .neq t a b = (do pure (.bool (!(← Op.equal t a b)))) := by
  cases a <;> first
    | exact absurd rfl (h1 _ _) | exact absurd rfl (h2 _) | exact absurd rfl (h3 _ _) | exact absurd rfl (h4 _ _ _)
    | exact ⟨rfl, rfl⟩

set_option maxHeartbeats 2000000 in
theorem bin_ok {P : Program} {T : Tab} (hT : TOk P T) {w : World} {ρ I L} {op : BinOp} {t : Nat} {x y : Operand} {u v : V} {a b : Value} (hu : Rel ρ I u a) (hv : Rel ρ I v b) (s : Sem Next)
    (hs : s.run P w = ((do eqGuard op t x y a b; binOp op t a b : Sem Value).run P w).andThen fun v w' => .ok (.value v) w') :
    (binV T op t u v).Ok P ρ I L w s := by
  unfold binV
  split
  · -- two integers
    rename_i k n k' m
    cases hu; cases hv
    have hg : (eqGuard op t x y (.int k n) (.int k' m)).run P w = .ok () w := run_eqGuard_ne (fun _ _ h => by cases h.1) (fun h => by cases h.1)
    simp only [Sem.run_bind, hg, Result.andThen_ok] at hs
    split
    · intro hc; simp at hc
      exact ⟨_, .int _ _, .inl (by rw [hs]; simp [binOp, Op.shift, show ¬ m < 0 by omega])⟩
    · intro hc; simp at hc
      exact ⟨_, .int _ _, .inl (by rw [hs]; simp [binOp, Op.shift, show ¬ m < 0 by omega])⟩
    · rename_i hne1 hne2
      split
      · rename_i hk; have := ikEq_eq hk; subst this
        refine intArith_ok op s ?_ ?_
        · rw [hs]; cases op <;> rfl
        · cases op <;> first | rfl | exact absurd rfl hne1 | exact absurd rfl hne2
      · trivial
  · rename_i la lb
    cases hu; rename_i sa ha; cases hv; rename_i sb hb
    have hg : (eqGuard op t x y (.string sa) (.string sb)).run P w = .ok () w := run_eqGuard_ne (fun _ _ h => by cases h.1) (fun h => by cases h.1)
    simp only [Sem.run_bind, hg, Result.andThen_ok] at hs
    refine str_ok ha hb op s ?_
    rw [hs]; cases op <;> rfl
  · rename_i hni hns
    split
    · split
      · rename_i r hr
        have hg := run_eqGuard_V hT (op := .eql) (x := x) (y := y) (w := w) hu hv hr
        have he := (run_eqV hT (P := P) (ρ := ρ) (I := I) 60).1 10000 t u v a b r w (by omega) hu hv hr
        refine ⟨.bool r, .bool r, .inl ?_⟩
        rw [hs]
        simp only [Sem.run_bind, hg, Result.andThen_ok]
        have hb : (binOp .eql t a b).run P w = .ok (.bool r) w := by
          obtain ⟨h1, h2, h3, h4⟩ := notNum hu (eqV_shape hr (fun _ _ _ _ e e' => hni _ _ _ _ e e') (fun _ _ e e' => hns _ _ e e'))
          rw [(binOp_eql h1 h2 h3 h4).1]; simp [Op.equal, Op.maxDepth, he]
        rw [hb]; rfl
      · trivial
    · split
      · rename_i r hr
        have hg := run_eqGuard_V hT (op := .neq) (x := x) (y := y) (w := w) hu hv hr
        have he := (run_eqV hT (P := P) (ρ := ρ) (I := I) 60).1 10000 t u v a b r w (by omega) hu hv hr
        refine ⟨.bool (!r), .bool (!r), .inl ?_⟩
        rw [hs]
        simp only [Sem.run_bind, hg, Result.andThen_ok]
        have hb : (binOp .neq t a b).run P w = .ok (.bool (!r)) w := by
          obtain ⟨h1, h2, h3, h4⟩ := notNum hu (eqV_shape hr (fun _ _ _ _ e e' => hni _ _ _ _ e e') (fun _ _ e e' => hns _ _ e e'))
          rw [(binOp_eql h1 h2 h3 h4).2]; simp [Op.equal, Op.maxDepth, he]
        rw [hb]; rfl
      · trivial
    · trivial

end Go.Vx
/- Stores, new rows, slices and indices on abstract values; that the model does what they say. -/
namespace Go.Vx
open Go Go.RowKit

def up2 {α : Type} (g : Nat → Nat → α) (i c : Nat) (v : α) : Nat → Nat → α := fun i' c' => if i' = i then (if c' = c then v else g i' c') else g i' c'

/-- Cells written into element i of a row of plain cells, from cell c on. -/
def putSh : List Sh → Nat → Nat → List V → (Nat → Nat → Int) × (Nat → Nat → Bool) × (Nat → Nat → List UInt8) → Option ((Nat → Nat → Int) × (Nat → Nat → Bool) × (Nat → Nat → List UInt8))
  | _, _, _, [], g => some g
  | sh, i, c, v :: vs, (gi, gb, gs) =>
    match nth sh c, v with
    | some (.int k), .int k' n => match ikEq k k' with
      | true => putSh sh i (c + 1) vs (up2 gi i c n, gb, gs)
      | false => none
    | some .bool, .bool b => putSh sh i (c + 1) vs (gi, up2 gb i c b, gs)
    | some .str, .str l => putSh sh i (c + 1) vs (gi, gb, up2 gs i c l)
    | _, _ => none

def allOne : List V → Bool
  | [] => true
  | v :: l => match v.one with
    | true => allOne l
    | false => false
theorem allOne_mem {l : List V} (h : allOne l = true) : ∀ v ∈ l, v.one = true := by
  induction l with
  | nil => simp
  | cons v l ih =>
    simp only [allOne] at h
    split at h
    · rename_i hv; intro u hu; rcases List.mem_cons.1 hu with rfl | hu; exact hv; exact ih h u hu
    · cases h
theorem Rels.allOne {ρ I} {l : List V} {xs : List Value} (h : Rels ρ I l xs) (ho : allOne l = true) : ∀ x ∈ xs, x.oneCell' = true := by
  intro x hx
  obtain ⟨i, hi⟩ := List.mem_iff_getElem?.1 hx
  have hlt : i < l.length := by have := (List.getElem?_eq_some_iff.1 hi).1; rw [h.length]; exact this
  obtain ⟨y, hy, hr⟩ := h.get i (List.getElem?_eq_getElem hlt)
  rw [hi] at hy; cases hy
  exact hr.one (allOne_mem ho _ (List.getElem_mem hlt))

theorem shV_length (sh : List Sh) (gi : Nat → Int) (gb : Nat → Bool) (gs : Nat → List UInt8) (c : Nat) : (shV sh gi gb gs c).length = sh.length := by
  induction sh generalizing c with
  | nil => rfl
  | cons s sh ih => cases s <;> simp [shV, ih]
theorem shV_get (sh : List Sh) (gi : Nat → Int) (gb : Nat → Bool) (gs : Nat → List UInt8) (c j : Nat) :
    (shV sh gi gb gs c)[j]? = (sh[j]?).map fun | .int k => V.int k (gi (c + j)) | .bool => .bool (gb (c + j)) | .str => .str (gs (c + j)) := by
  induction sh generalizing c j with
  | nil => simp [shV]
  | cons s sh ih =>
    cases j with
    | zero => cases s <;> simp [shV]
    | succ j => cases s <;> simp [shV, ih, show c + 1 + j = c + (j + 1) by omega]

theorem putSh_ok {sh : List Sh} {i : Nat} : ∀ {vs : List V} {c : Nat} {gi gb gs gi' gb' gs'}, putSh sh i c vs (gi, gb, gs) = some (gi', gb', gs') →
    allOne vs = true ∧ c + vs.length ≤ sh.length + (if vs = [] then c else 0) ∧ (∀ j, j ≠ i → gi' j = gi j ∧ gb' j = gb j ∧ gs' j = gs j) ∧
    shV sh (gi' i) (gb' i) (gs' i) 0 = (shV sh (gi i) (gb i) (gs i) 0).take c ++ vs ++ (shV sh (gi i) (gb i) (gs i) 0).drop (c + vs.length)
  | [], c, gi, gb, gs, gi', gb', gs', h => by
    simp only [putSh, Option.some.injEq, Prod.mk.injEq] at h
    obtain ⟨rfl, rfl, rfl⟩ := h
    simp [allOne]
  | v :: vs, c, gi, gb, gs, gi', gb', gs', h => by
    have step : ∀ (hi : Nat → Nat → Int) (hb : Nat → Nat → Bool) (hs : Nat → Nat → List UInt8), putSh sh i (c + 1) vs (hi, hb, hs) = some (gi', gb', gs') → v.one = true → c < sh.length →
        (∀ j, j ≠ i → hi j = gi j ∧ hb j = gb j ∧ hs j = gs j) →
        shV sh (hi i) (hb i) (hs i) 0 = (shV sh (gi i) (gb i) (gs i) 0).set c v →
        allOne (v :: vs) = true ∧ c + (v :: vs).length ≤ sh.length + (if v :: vs = [] then c else 0) ∧ (∀ j, j ≠ i → gi' j = gi j ∧ gb' j = gb j ∧ gs' j = gs j) ∧
          shV sh (gi' i) (gb' i) (gs' i) 0 = (shV sh (gi i) (gb i) (gs i) 0).take c ++ (v :: vs) ++ (shV sh (gi i) (gb i) (gs i) 0).drop (c + (v :: vs).length) := by
      intro hi hb hs h1 h2 h3 h4 h5
      obtain ⟨k1, k2, k3, k4⟩ := putSh_ok h1
      refine ⟨by simp [allOne, h2, k1], ?_, fun j hj => ?_, ?_⟩
      · by_cases hv : vs = []
        · subst hv; simp; omega
        · simp [hv] at k2 ⊢; omega
      · obtain ⟨a1, a2, a3⟩ := k3 j hj; obtain ⟨b1, b2, b3⟩ := h4 j hj; exact ⟨a1.trans b1, a2.trans b2, a3.trans b3⟩
      · rw [k4, h5]
        have hl : c < (shV sh (gi i) (gb i) (gs i) 0).length := by rw [shV_length]; exact h3
        rw [List.take_add_one, List.take_set_of_le (Nat.le_refl _), List.getElem?_set_self hl]
        simp [List.drop_set, show c + 1 + vs.length = c + (vs.length + 1) by omega]
    simp only [putSh] at h
    split at h
    · rename_i k k' n hn
      split at h
      · rename_i hk; have := ikEq_eq hk; subst this
        rw [nth_eq] at hn
        refine step _ _ _ h rfl (List.getElem?_eq_some_iff.1 hn).1 (fun j hj => ⟨by funext c'; simp [up2, hj], rfl, rfl⟩) ?_
        apply List.ext_getElem?
        intro j
        rw [List.getElem?_set, shV_get, shV_get]
        simp only [shV_length, Nat.zero_add]
        by_cases hc : c = j
        · subst hc; rw [if_pos rfl, if_pos (List.getElem?_eq_some_iff.1 hn).1, hn]; simp [up2]
        · simp only [hc, if_false]
          cases sh[j]? with
          | none => rfl
          | some s => cases s <;> simp [up2, Ne.symm hc]
      · cases h
    · rename_i b hn
      rw [nth_eq] at hn
      refine step _ _ _ h rfl (List.getElem?_eq_some_iff.1 hn).1 (fun j hj => ⟨rfl, by funext c'; simp [up2, hj], rfl⟩) ?_
      apply List.ext_getElem?
      intro j
      rw [List.getElem?_set, shV_get, shV_get]
      simp only [shV_length, Nat.zero_add]
      by_cases hc : c = j
      · subst hc; rw [if_pos rfl, if_pos (List.getElem?_eq_some_iff.1 hn).1, hn]; simp [up2]
      · simp only [hc, if_false]
        cases sh[j]? with
        | none => rfl
        | some s => cases s <;> simp [up2, Ne.symm hc]
    · rename_i l hn
      rw [nth_eq] at hn
      refine step _ _ _ h rfl (List.getElem?_eq_some_iff.1 hn).1 (fun j hj => ⟨rfl, rfl, by funext c'; simp [up2, hj]⟩) ?_
      apply List.ext_getElem?
      intro j
      rw [List.getElem?_set, shV_get, shV_get]
      simp only [shV_length, Nat.zero_add]
      by_cases hc : c = j
      · subst hc; rw [if_pos rfl, if_pos (List.getElem?_eq_some_iff.1 hn).1, hn]; simp [up2]
      · simp only [hc, if_false]
        cases sh[j]? with
        | none => rfl
        | some s => cases s <;> simp [up2, Ne.symm hc]
    · cases h

/-- A store through a pointer (block's contents, element, cell). -/
def storeV (b : Blk) (i sub : Nat) (vs : List V) : Option Blk :=
  match b with
  | .fix e cs => match allOne vs, splice cs sub vs with
    | true, some r => some (.fix e r)
    | _, _ => none
  | .arr e sh gi gb gs => match putSh sh i sub vs (gi, gb, gs) with
    | some (gi', gb', gs') => some (.arr e sh gi' gb' gs')
    | none => none
  | _ => none

theorem drop_take_splice {α : Type} (l vs : List α) (a o k : Nat) (hk : o + vs.length ≤ l.length) (h : a + k ≤ o ∨ o + vs.length ≤ a) :
    ((l.take o ++ vs ++ l.drop (o + vs.length)).drop a).take k = (l.drop a).take k := by
  apply List.ext_getElem?
  intro j
  simp only [List.getElem?_take, List.getElem?_drop]
  split
  · rename_i hj
    rcases h with h | h
    · rw [List.append_assoc, List.getElem?_append_left (by simp; omega), List.getElem?_take_of_lt (by omega)]
    · rw [List.getElem?_append_right (by simp; omega)]
      simp only [List.length_append, List.length_take, List.getElem?_drop]
      congr 1; omega
  · rfl
theorem drop_take_splice_in {α : Type} (l vs : List α) (a sub k : Nat) (hk : sub + vs.length ≤ k) (hl : a + k ≤ l.length) :
    ((l.take (a + sub) ++ vs ++ l.drop (a + sub + vs.length)).drop a).take k = ((l.drop a).take k).take sub ++ vs ++ ((l.drop a).take k).drop (sub + vs.length) := by
  apply List.ext_getElem?
  intro j
  simp only [List.getElem?_take, List.getElem?_drop]
  by_cases hj : j < k
  · simp only [hj, if_true]
    by_cases h1 : j < sub
    · rw [List.append_assoc, List.getElem?_append_left (by simp; omega), List.getElem?_take_of_lt (by omega), List.append_assoc, List.getElem?_append_left (by simp; omega)]
      simp [List.getElem?_take, h1, hj]
    · by_cases h2 : j < sub + vs.length
      · rw [List.append_assoc, List.getElem?_append_right (by simp; omega), List.getElem?_append_left (by simp; omega), List.append_assoc, List.getElem?_append_right (by simp; omega), List.getElem?_append_left (by simp; omega)]
        congr 1; simp; omega
      · rw [List.getElem?_append_right (by simp; omega), List.getElem?_append_right (by simp; omega)]
        simp only [List.length_append, List.length_take, List.length_drop, List.getElem?_drop, List.getElem?_take]
        rw [if_pos (by omega)]
        congr 1; omega
  · simp only [hj, if_false]
    rw [List.getElem?_eq_none]
    simp; omega

theorem turn_setRow {w : World} {b : Nat} {arr cs : Array Value} {el : TypeId} {fz : Nat × Nat} (h : w.heap[b]? = some (.cells arr el fz)) : Turn w b (.cells cs el fz) (w.setRow b cs) :=
  ⟨setRow_heap w b arr cs el fz h, fun k hk => setRow_other w b k cs hk, setRow_size w b cs, rfl, rfl, rfl⟩

theorem storeV_live {b b' : Blk} {i sub : Nat} {vs : List V} (h : storeV b i sub vs = some b') : b.live = true := by
  cases b <;> simp [storeV, Blk.live] at h ⊢

/-- The model's store at a place of a known row. -/
theorem run_storeV {P : Program} {T : Tab} (hT : TOk P T) {ρ I L} {w : World} (hM : Mod ρ I L w) {t tt i sub : Nat} {te : TE} {b b' : Blk} {v : V} {x : Value} {vs : List V}
    (hL : L[t]? = some b) (hρ : ρ[t]? = some (some te)) (hi : i < te.n) (hx : Rel ρ I v x) (hc : cellsV v = some vs) (hk : (T tt).ty.known = true) (hsz : lenIs (T tt).size vs = true)
    (hs : storeV b i sub vs = some b') :
    ∃ o' w', BRel ρ I te b' o' ∧ Turn w te.b o' w' ∧ (storeVar tt ⟨te.b, te.o + i * te.sz + sub, none⟩ x).run P w = .ok () w' := by
  obtain ⟨o, ho, hb⟩ := hM.own t b te hL (storeV_live hs) hρ
  have hcs := cellsV_rel hx hc
  have hlen : x.cells.size = (T tt).size := by have := hcs.length; have h2 := lenIs_eq hsz; simp at this; omega
  have main : ∀ (f f' : Nat → List V), CellsRel ρ I te f o → allOne vs = true → sub + vs.length ≤ te.sz ∨ vs = [] → (∀ j, j ≠ i → f' j = f j) → f' i = (f i).take sub ++ vs ++ (f i).drop (sub + vs.length) →
      ∃ arr el, o = .cells arr el (0, 0) ∧ ∃ w', CellsRel ρ I te f' (.cells (arr.toList.take (te.o + i * te.sz + sub) ++ x.cells.toList ++ arr.toList.drop (te.o + i * te.sz + sub + x.cells.size)).toArray el (0, 0)) ∧
        Turn w te.b (.cells (arr.toList.take (te.o + i * te.sz + sub) ++ x.cells.toList ++ arr.toList.drop (te.o + i * te.sz + sub + x.cells.size)).toArray el (0, 0)) w' ∧
        (storeVar tt ⟨te.b, te.o + i * te.sz + sub, none⟩ x).run P w = .ok () w' := by
    rintro f f' ⟨arr, el, rfl, h2, h3, h4⟩ hone hle hoth hin
    have hvl : vs.length = x.cells.size := by have := hcs.length; simpa using this
    have hiz : (i + 1) * te.sz ≤ te.m * te.sz := Nat.mul_le_mul_right _ (by omega)
    have hi1 : (i + 1) * te.sz = i * te.sz + te.sz := by rw [Nat.add_mul, Nat.one_mul]
    have hsubsz : sub + vs.length ≤ te.sz ∨ vs = [] := hle
    have hbound : vs ≠ [] → te.o + i * te.sz + sub + vs.length ≤ arr.size := fun hne => by rcases hle with h | h; omega; exact absurd h hne
    have hstore : (storeVar tt ⟨te.b, te.o + i * te.sz + sub, none⟩ x).run P w = .ok () (w.setRow te.b (arr.toList.take (te.o + i * te.sz + sub) ++ x.cells.toList ++ arr.toList.drop (te.o + i * te.sz + sub + x.cells.size)).toArray) := by
      have h5 : (storeVar tt ⟨te.b, te.o + i * te.sz + sub, none⟩ x).run P w = (storeCells ⟨te.b, te.o + i * te.sz + sub, none⟩ x.cells.toList).run P w := by
        simp [storeVar, Sem.run_bind, run_sizeOf hT hk, hlen]
      rw [h5]
      by_cases hne : vs = []
      · have he : x.cells = #[] := by have : x.cells.size = 0 := by rw [← hvl, hne]; rfl
                                      exact Array.eq_empty_of_size_eq_zero this
        rw [he]
        simp [storeCells, setRow_self w te.b arr el (0, 0) ho]
      · have := run_storeCells_at (P := P) te.b (te.o + i * te.sz + sub) el x.cells.toList 0 arr w ho (by have := hbound hne; simp; omega) (hcs.allOne hone)
        simpa using this
    refine ⟨arr, el, rfl, _, ?_, turn_setRow ho, hstore⟩
    refine ⟨_, el, rfl, h2, ?_, ?_⟩
    · simp
      by_cases hne : vs = []
      · have : x.cells.size = 0 := by rw [← hvl, hne]; rfl
        omega
      · have := hbound hne; omega
    · intro j hj
      have hjz : (j + 1) * te.sz ≤ te.m * te.sz := Nat.mul_le_mul_right _ (by omega)
      have hj1 : (j + 1) * te.sz = j * te.sz + te.sz := by rw [Nat.add_mul, Nat.one_mul]
      obtain ⟨g1, g2⟩ := h4 j hj
      simp only [List.toList_toArray]
      by_cases hji : j = i
      · subst hji
        by_cases hne : vs = []
        · subst hne
          have he : x.cells.toList = [] := by have : x.cells.toList.length = 0 := by simp; simpa using hvl.symm
                                              exact List.eq_nil_of_length_eq_zero this
          have hz : x.cells.size = 0 := by simpa using hvl.symm
          rw [he, hz]
          simp at hin ⊢
          rw [hin]; exact ⟨g1, g2⟩
        · have hle' : sub + vs.length ≤ te.sz := by rcases hle with h | h; exact h; exact absurd h hne
          have e := drop_take_splice_in arr.toList x.cells.toList (te.o + j * te.sz) sub te.sz (by simp; omega) (by simp; omega)
          simp only [Array.length_toList] at e
          rw [e, hin]
          refine ⟨by simp [g1]; omega, ?_⟩
          rw [hvl]
          exact ((g2.take sub).append hcs).append (g2.drop _)
      · rw [hoth j hji]
        refine ⟨g1, ?_⟩
        by_cases hne : vs = []
        · subst hne
          have he : x.cells.toList = [] := by have : x.cells.toList.length = 0 := by simp; simpa using hvl.symm
                                              exact List.eq_nil_of_length_eq_zero this
          have hz : x.cells.size = 0 := by simpa using hvl.symm
          rw [he, hz]
          simpa using g2
        · have hle' : sub + vs.length ≤ te.sz := by rcases hle with h | h; exact h; exact absurd h hne
          have e := drop_take_splice arr.toList x.cells.toList (te.o + j * te.sz) (te.o + i * te.sz + sub) te.sz (by have := hbound hne; simp; omega) (by
            rcases Nat.lt_or_gt_of_ne hji with h | h
            · left; have : (j + 1) * te.sz ≤ i * te.sz := Nat.mul_le_mul_right _ (by omega); omega
            · right; have : (i + 1) * te.sz ≤ j * te.sz := Nat.mul_le_mul_right _ (by omega); simp; omega)
          simp only [Array.length_toList] at e
          rw [e]; exact g2
  cases b with
  | fix e cs =>
    simp only [storeV] at hs
    split at hs
    · rename_i r h1 h2
      cases hs
      obtain ⟨e1, e2⟩ := splice_eq h2
      obtain ⟨hb, hone, hz0, arr0, hz1, hz2⟩ : CellsRel ρ I te (fun _ => cs) o ∧ te.n = 1 ∧ ShapeIs e te o := hb
      have hcl : cs.length = te.sz := by obtain ⟨_, _, _, _, _, h4⟩ := hb; exact (h4 i hi).1
      obtain ⟨arr, el, hoe, w', c1, c2, c3⟩ := main (fun _ => cs) (fun j => if j = i then r else cs) hb h1 (.inl (by omega)) (fun j hj => by simp [hj]) (by simp [e2])
      refine ⟨_, w', ⟨?_, hone, hz0, ?_⟩, c2, c3⟩
      rotate_left
      · rw [hz1] at hoe
        cases hoe
        refine ⟨_, rfl, ?_⟩
        have h1 := hcs.length
        have hi0 : i = 0 := by omega
        simp only [Array.length_toList] at h1
        rw [hcl] at e1
        rw [hz0, hi0, List.size_toArray]
        simp only [List.length_append, List.length_take, List.length_drop, Array.length_toList]
        omega
      obtain ⟨a', el', d1, d2, d3, d4⟩ := c1
      exact ⟨a', el', d1, d2, d3, fun j hj => by
        have h0 : j = i := by omega
        have := d4 j hj
        simpa [h0, cellsOf] using this⟩
    · cases hs
  | arr e sh gi gb gs =>
    simp only [storeV] at hs
    split at hs
    · rename_i gi' gb' gs' h1
      cases hs
      obtain ⟨k1, k2, k3, k4⟩ := putSh_ok h1
      have hcl : sh.length = te.sz := by obtain ⟨_, _, _, _, _, h4⟩ := (show CellsRel ρ I te (cellsOf (.arr e sh gi gb gs)) o from hb.1); have := (h4 i hi).1; simpa [cellsOf, shV_length] using this
      obtain ⟨arr, el, hoe, w', c1, c2, c3⟩ := main (cellsOf (.arr e sh gi gb gs)) (cellsOf (.arr e sh gi' gb' gs')) hb.1 k1 (by
          by_cases hne : vs = []
          · exact .inr hne
          · simp [hne] at k2; exact .inl (by omega)) (fun j hj => by obtain ⟨a1, a2, a3⟩ := k3 j hj; simp [cellsOf, a1, a2, a3]) k4
      refine ⟨_, w', ⟨c1, ?_⟩, c2, c3⟩
      obtain ⟨a0, ha0⟩ := hb.2
      rw [ha0] at hoe; cases hoe
      exact ⟨_, rfl⟩
    · cases hs
  | dead => simp [storeV] at hs
  | map => simp [storeV] at hs
  | miter => simp [storeV] at hs
  | siter => simp [storeV] at hs
  | loop => simp [storeV] at hs

end Go.Vx
/- Addresses, slices, lengths, conversions on abstract values; that the model does what they say. -/
namespace Go.Vx
open Go Go.RowKit

def natEq (a b : Nat) : Bool := Nat.beq a b
theorem natEq_eq {a b : Nat} (h : natEq a b = true) : a = b := Nat.eq_of_beq_eq_true h

def ptrLoad (T : Tab) (t : Nat) (L : List Blk) (v : V) : Option V :=
  match v with
  | .ptr b i sub => match nth L b with
    | some blk => loadV T t (cellsOf blk i) sub
    | none => none
  | .ep _ _ f i sub => loadV T t (f i) sub
  | _ => none

theorem loadV_nil {T : Tab} {t sub : Nat} {v : V} (h : loadV T t [] sub = some v) : False := by
  simp only [loadV] at h
  split at h
  · cases h
  · split at h
    · split at h
      · cases h
      · rename_i n _; cases sub <;> simp [drop', take?] at h
    · simp [nth] at h

theorem run_ptrLoad {P : Program} {T : Tab} (hT : TOk P T) {ρ I L} {w : World} (hM : Mod ρ I L w) {t : Nat} {v r : V} {x : Value} (hv : Rel ρ I v x) (h : ptrLoad T t L v = some r) :
    ∃ y, (Instr.loadAt t x).run P w = .ok y w ∧ Rel ρ I r y := by
  cases hv with
  | ptr t' i sub te hρ hi =>
    simp only [ptrLoad] at h
    split at h
    · rename_i blk hL
      rw [nth_eq] at hL
      have hlive : blk.live = true := by cases blk <;> first | rfl | exact (loadV_nil h).elim
      obtain ⟨o, ho, hb⟩ := hM.own t' blk te hL hlive hρ
      have hc : CellsRel ρ I te (cellsOf blk) o := by
        cases blk with
        | fix cs => exact hb.1
        | arr => exact hb.1
        | _ => exact (loadV_nil h).elim
      obtain ⟨arr, el, rfl, h2, h3, h4⟩ := hc
      obtain ⟨g1, g2⟩ := h4 i hi
      obtain ⟨y, hy, hr⟩ := run_loadVar (P := P) hT ho g1 g2 h
      exact ⟨y, by simpa [Instr.loadAt, Instr.sureAddr] using hy, hr⟩
    · cases h
  | ep sz len f i sub b off arr el fz hI hi hs hr =>
    simp only [ptrLoad] at h
    have ho := hM.imm _ _ hI
    obtain ⟨y, hy, hr'⟩ := run_loadVar (P := P) hT ho (hs i hi) ((hr i hi).mono (TEs.nil_le ρ) (Imm.le_refl _)) h
    exact ⟨y, by simpa [Instr.loadAt, Instr.sureAddr] using hy, hr'⟩
  | _ => simp [ptrLoad] at h

theorem addr_add (b o n : Nat) : (⟨b, o, none⟩ : Addr).add n = ⟨b, o + n, none⟩ := by unfold Addr.add; split <;> simp_all

/-! ### Addresses -/
def indexAddrV (T : Tab) (t : Nat) (x ix : V) : PR :=
  match ix with
  | .int _ n => match (T t).ty, x with
    | .slice e, .sl b sz off len _ => match (T e).ty.known, natEq sz (T e).size with
      | true, true => .grd (decide (0 ≤ n) && decide (n < (len : Int))) (.val (.ptr b (off + n.toNat) 0))
      | _, _ => .bad
    | .slice e, .slf b esz off len _ => match (T e).ty.known, natEq esz (T e).size with
      | true, true => .grd (decide (0 ≤ n) && decide (n < (len : Int))) (.val (.ptr b 0 (off + n.toNat * esz)))
      | _, _ => .bad
    | .slice e, .ro sz len f => match (T e).ty.known, natEq sz (T e).size with
      | true, true => .grd (decide (0 ≤ n) && decide (n < (len : Int))) (.val (.ep sz len f n.toNat 0))
      | _, _ => .bad
    | .array m e, .ptr b i sub => match (T e).ty.known with
      | true => .grd (decide (0 ≤ n) && decide (n < (m : Int))) (.val (.ptr b i (sub + n.toNat * (T e).size)))
      | _ => .bad
    | .array m e, .ep sz len f i sub => match (T e).ty.known with
      | true => .grd (decide (0 ≤ n) && decide (n < (m : Int))) (.val (.ep sz len f i (sub + n.toNat * (T e).size)))
      | _ => .bad
    | _, _ => .bad
  | _ => .bad

theorem guard2 {n m : Int} (h : (decide (0 ≤ n) && decide (n < m)) = true) : 0 ≤ n ∧ n < m := by simpa using h

theorem indexAddr_ok {P : Program} {T : Tab} (hT : TOk P T) {ρ I L} {w : World} {t : Nat} {u v : V} {x y : Value} (hu : Rel ρ I u x) (hv : Rel ρ I v y) (s : Sem Next)
    (hs : s.run P w = ((Instr.indexAt t x y).run P w).andThen fun v w' => .ok (.value v) w') : (indexAddrV T t u v).Ok P ρ I L w s := by
  unfold indexAddrV
  split <;> try trivial
  rename_i k n
  cases hv
  split <;> try trivial
  all_goals rename_i hty
  all_goals have hk : (T t).ty.known = true := by rw [hty]; rfl
  all_goals obtain ⟨d, hd, hdo⟩ := under hT hk
  all_goals rw [hty] at hdo
  all_goals (cases d <;> simp [DescOk] at hdo)
  · -- a slice of a row of one's own
    rename_i e b sz off ln cp _
    subst hdo
    split <;> try trivial
    rename_i hke hsz
    intro hc
    obtain ⟨h0, h1⟩ := guard2 hc
    cases hu with
    | slNil => omega
    | sl _ _ _ _ _ c te o hρ hz hl hlc hcc hcm ho =>
    have hcap : c ≠ 0 := by omega
    refine ⟨_, .ptr _ _ _ te hρ (by omega), .inl ?_⟩
    rw [hs]
    simp only [Instr.indexAt, asIntOf, Sem.run_bind, Sem.run_pure, Result.andThen_ok, run_underlying hd, h0, h1, and_self, if_true, run_sizeOf hT hke, addr_add, ho hcap]
    have := natEq_eq hsz
    simp only [Nat.add_mul, Nat.add_zero, ← this, hz, Nat.add_assoc]
  · rename_i e b esz off ln cp _
    subst hdo
    split <;> try trivial
    rename_i hke hsz
    intro hc
    obtain ⟨h0, h1⟩ := guard2 hc
    cases hu with | slf _ _ _ _ _ te o hρ hn hlc hcm ho =>
    have hcap : cp ≠ 0 := by omega
    refine ⟨_, .ptr _ _ _ te hρ (by omega), .inl ?_⟩
    rw [hs]
    simp only [Instr.indexAt, asIntOf, Sem.run_bind, Sem.run_pure, Result.andThen_ok, run_underlying hd, h0, h1, and_self, if_true, run_sizeOf hT hke, addr_add, ho hcap]
    have := natEq_eq hsz
    simp only [Nat.zero_mul, Nat.add_zero, ← this, Nat.add_assoc]
  · rename_i e sz ln f _
    subst hdo
    split <;> try trivial
    rename_i hke hsz
    intro hc
    obtain ⟨h0, h1⟩ := guard2 hc
    cases hu with
    | roNil => omega
    | ro _ _ _ b off cap arr el fz hI hc' hs' hr' =>
      refine ⟨_, .ep sz ln f n.toNat 0 b off arr el fz hI (by omega) hs' hr', .inl ?_⟩
      rw [hs]
      simp only [Instr.indexAt, asIntOf, Sem.run_bind, Sem.run_pure, Result.andThen_ok, run_underlying hd, h0, h1, and_self, if_true, run_sizeOf hT hke, addr_add]
      have := natEq_eq hsz
      simp only [Nat.add_zero, ← this]
  · rename_i m e b i sub _
    obtain ⟨rfl, rfl⟩ := hdo
    split <;> try trivial
    rename_i hke
    intro hc
    obtain ⟨h0, h1⟩ := guard2 hc
    cases hu with | ptr _ _ _ te hρ hi =>
    refine ⟨_, .ptr _ _ _ te hρ hi, .inl ?_⟩
    rw [hs]
    simp only [Instr.indexAt, Instr.sureAddr, asIntOf, Sem.run_bind, Sem.run_pure, Result.andThen_ok, run_underlying hd, h0, h1, and_self, if_true, run_sizeOf hT hke, addr_add]
    simp only [Nat.add_assoc]
  · rename_i m e sz ln f i sub _
    obtain ⟨rfl, rfl⟩ := hdo
    split <;> try trivial
    rename_i hke
    intro hc
    obtain ⟨h0, h1⟩ := guard2 hc
    cases hu with | ep sz ln f i sub b off arr el fz hI hi hs' hr' =>
    refine ⟨_, .ep _ _ _ _ _ b off arr el fz hI hi hs' hr', .inl ?_⟩
    rw [hs]
    simp only [Instr.indexAt, Instr.sureAddr, asIntOf, Sem.run_bind, Sem.run_pure, Result.andThen_ok, run_underlying hd, h0, h1, and_self, if_true, run_sizeOf hT hke, addr_add]
    simp only [Nat.add_assoc]

def fieldAddrV (T : Tab) (t : Nat) (x : V) (f : Nat) : PR :=
  match (T t).ty with
  | .struct fs => match nth fs f with
    | some (off, ft) => match (T ft).ty.known, (T ft).size, x with
      | true, _ + 1, .ptr b i sub => .val (.ptr b i (sub + off))
      | true, _ + 1, .ep sz ln g i sub => .val (.ep sz ln g i (sub + off))
      | _, _, _ => .bad
    | none => .bad
  | _ => .bad

theorem fieldAddr_ok {P : Program} {T : Tab} (hT : TOk P T) {ρ I L} {w : World} {t f : Nat} {u : V} {x : Value} (hu : Rel ρ I u x) (s : Sem Next)
    (hs : s.run P w = ((Instr.fieldAt t x f).run P w).andThen fun v w' => .ok (.value v) w') : (fieldAddrV T t u f).Ok P ρ I L w s := by
  unfold fieldAddrV
  split <;> try trivial
  rename_i fs hty
  have hk : (T t).ty.known = true := by rw [hty]; rfl
  obtain ⟨d, hd, hdo⟩ := under hT hk
  rw [hty] at hdo
  cases d <;> simp [DescOk] at hdo
  rename_i fields
  split <;> try trivial
  rename_i off ft hf
  rw [nth_eq, ← hdo] at hf
  simp at hf
  obtain ⟨fd, hfd, rfl, rfl⟩ := hf
  have hfd' : fields[f]? = some fd := by simpa using hfd
  split <;> try trivial
  · rename_i n b i sub hke hsz
    cases hu with | ptr _ _ _ te hρ hi =>
    refine ⟨_, .ptr _ _ _ te hρ hi, .inl ?_⟩
    rw [hs]
    simp only [Instr.fieldAt, Instr.sureAddr, fieldPlace, Sem.run_bind, Sem.run_pure, Result.andThen_ok, run_underlying hd, hfd', run_sizeOf hT hke, hsz, Sem.run_ite, Nat.succ_ne_zero, if_false, addr_add]
    simp [Nat.add_assoc]
  · rename_i hke hsz
    cases hu with | ep sz ln g i sub b off' arr el fz hI hi hs' hr' =>
    refine ⟨_, .ep _ _ _ _ _ b off' arr el fz hI hi hs' hr', .inl ?_⟩
    rw [hs]
    simp only [Instr.fieldAt, Instr.sureAddr, fieldPlace, Sem.run_bind, Sem.run_pure, Result.andThen_ok, run_underlying hd, hfd', run_sizeOf hT hke, hsz, Sem.run_ite, Nat.succ_ne_zero, if_false, addr_add]
    simp [Nat.add_assoc]

def fieldV (T : Tab) (t : Nat) (x : V) (f : Nat) : PR :=
  match (T t).ty, x with
  | .struct fs, .agg cs => match nth fs f with
    | some (off, ft) => match partV T ft cs off with
      | some v => .val v
      | none => .bad
    | none => .bad
  | _, _ => .bad
theorem field_ok {P : Program} {T : Tab} (hT : TOk P T) {ρ I L} {w : World} {t f : Nat} {u : V} {x : Value} (hu : Rel ρ I u x) (s : Sem Next)
    (hs : s.run P w = ((Instr.field t x f).run P w).andThen fun v w' => .ok (.value v) w') : (fieldV T t u f).Ok P ρ I L w s := by
  unfold fieldV
  split <;> try trivial
  rename_i fs cs hty
  have hk : (T t).ty.known = true := by rw [hty]; rfl
  obtain ⟨d, hd, hdo⟩ := under hT hk
  rw [hty] at hdo
  cases d <;> simp [DescOk] at hdo
  rename_i fields
  split <;> try trivial
  rename_i off ft hf
  rw [nth_eq, ← hdo] at hf
  simp at hf
  obtain ⟨fd, hfd, rfl, rfl⟩ := hf
  have hfd' : fields[f]? = some fd := by simpa using hfd
  split <;> try trivial
  rename_i v hp
  cases hu; rename_i xs hxs
  obtain ⟨y, hy, hr⟩ := run_part (P := P) (w := w) hT hxs hp
  refine ⟨y, hr, .inl ?_⟩
  rw [hs]
  simp only [Instr.field, asAgg, Sem.run_bind, Sem.run_pure, Result.andThen_ok, run_underlying hd, hfd', hy]

def byteAt (l : List UInt8) (n : Nat) : Int := ((l.getD n 0).toNat : Int)
def indexV (T : Tab) (t : Nat) (x ix : V) : PR :=
  match ix with
  | .int _ n => match (T t).ty, x with
    | .array m e, .agg cs => match (T e).ty.known, partV T e cs (n.toNat * (T e).size) with
      | true, some v => .grd (decide (0 ≤ n) && decide (n < (m : Int))) (.val v)
      | _, _ => .bad
    | .str, .str l => .grd (decide (0 ≤ n) && decide (n < (l.length : Int))) (.val (.int .u8 (byteAt l n.toNat)))
    | _, _ => .bad
  | _ => .bad
theorem index_ok {P : Program} {T : Tab} (hT : TOk P T) {ρ I L} {w : World} {t : Nat} {u v : V} {x y : Value} (hu : Rel ρ I u x) (hv : Rel ρ I v y) (s : Sem Next)
    (hs : s.run P w = ((Instr.index t x y).run P w).andThen fun v w' => .ok (.value v) w') : (indexV T t u v).Ok P ρ I L w s := by
  unfold indexV
  split <;> try trivial
  rename_i k n
  cases hv
  split <;> try trivial
  all_goals rename_i hty
  all_goals have hk : (T t).ty.known = true := by rw [hty]; rfl
  all_goals obtain ⟨d, hd, hdo⟩ := under hT hk
  all_goals rw [hty] at hdo
  all_goals (cases d <;> simp [DescOk] at hdo)
  · obtain ⟨rfl, rfl⟩ := hdo
    rename_i m e cs _
    split <;> try trivial
    rename_i v hke hp
    intro hc
    obtain ⟨h0, h1⟩ := guard2 hc
    cases hu; rename_i xs hxs
    obtain ⟨y, hy, hr⟩ := run_part (P := P) (w := w) hT hxs hp
    refine ⟨y, hr, .inl ?_⟩
    rw [hs]
    simp only [Instr.index, asIntOf, Sem.run_bind, Sem.run_pure, Result.andThen_ok, run_underlying hd, h0, h1, and_self, if_true, run_sizeOf hT hke, hy]
  · rename_i l
    intro hc
    obtain ⟨h0, h1⟩ := guard2 hc
    cases hu; rename_i sb hsb
    refine ⟨_, .int _ _, .inl ?_⟩
    rw [hs]
    subst hsb
    have hlt : n.toNat < sb.size := by
      have : sb.size = sb.data.toList.length := (Array.length_toList).symm
      omega
    have hg : sb[n.toNat]? = some sb[n.toNat] := by simp [hlt]
    simp only [Instr.index, asIntOf, Sem.run_bind, Sem.run_pure, Result.andThen_ok, run_underlying hd, h0, if_true, hg, byteAt]
    congr 3
    rw [List.getD_eq_getElem?_getD]
    have : sb.data.toList[n.toNat]? = some sb[n.toNat] := by
      rw [List.getElem?_eq_getElem (by rw [Array.length_toList]; exact hlt)]; rfl
    rw [this]; rfl

end Go.Vx
/- Package-level tables of numbers: an element's place. -/
namespace Go.Vx
open Go Go.RowKit
def lookG (g : Nat) : List (Nat × List IntKind × List Int) → Option (List IntKind × List Int)
  | [] => none
  | (k, p) :: l => match Nat.beq k g with
    | true => some p
    | false => lookG g l
theorem lookG_mem {g : Nat} : ∀ {l : List (Nat × List IntKind × List Int)} {p}, lookG g l = some p → (g, p) ∈ l
  | [], _, h => by simp [lookG] at h
  | (k, q) :: l, p, h => by
    simp only [lookG] at h
    split at h
    · rename_i hk
      cases h
      obtain rfl := Nat.eq_of_beq_eq_true hk
      exact List.mem_cons_self
    · exact List.mem_cons_of_mem _ (lookG_mem h)
theorem rowG_length (zs : List Int) : ∀ (ks : List IntKind) (j : Nat), (rowG zs ks j).length = ks.length
  | [], _ => rfl
  | _ :: ks, j => by simp [rowG, rowG_length zs ks]
theorem rowX_length (zs : List Int) : ∀ (ks : List IntKind) (j : Nat), (rowX zs ks j).length = ks.length
  | [], _ => rfl
  | _ :: ks, j => by simp [rowX, rowX_length zs ks]
theorem rowG_rel (ρ I) (zs : List Int) : ∀ (ks : List IntKind) (j : Nat), Rels ρ I (rowG zs ks j) (rowX zs ks j)
  | [], _ => .nil
  | _ :: ks, j => .cons _ _ _ _ (.int _ _) (rowG_rel ρ I zs ks (j + 1))
theorem flat_length {α : Type} {F : Nat → List α} {sz : Nat} (hF : ∀ i, (F i).length = sz) : ∀ n, ((List.range n).flatMap F).length = n * sz
  | 0 => by simp
  | n + 1 => by rw [List.range_succ, List.flatMap_append, List.length_append, flat_length hF n]; simp [hF, Nat.add_mul]
theorem flat_row {α : Type} {F : Nat → List α} {sz : Nat} (hF : ∀ i, (F i).length = sz) : ∀ {n i : Nat}, i < n → (((List.range n).flatMap F).drop (i * sz)).take sz = F i
  | 0, i, h => by omega
  | n + 1, i, h => by
    have hl := flat_length hF n
    rw [List.range_succ, List.flatMap_append]
    by_cases hi : i < n
    · have h1 : i * sz + sz ≤ n * sz := by rw [← Nat.succ_mul]; exact Nat.mul_le_mul_right _ hi
      rw [List.drop_append_of_le_length (by omega), List.take_append_of_le_length (by rw [List.length_drop]; omega)]
      exact flat_row hF hi
    · obtain rfl : i = n := by omega
      rw [← hl, List.drop_left]
      simp [← hF i]
def globIdx (T : Tab) (t g : Nat) (ix : V) : PR :=
  match lookG g globs, (T t).ty, ix with
  | some (ks, zs), .array m e, .int _ n => match (T e).ty.known, natEq (T e).size (len ks), natEq (m * len ks) (len zs), Nat.blt 0 (len ks) with
    | true, true, true, true => .grd (decide (0 ≤ n) && decide (n < (m : Int))) (.val (.ep (len ks) m (fun i => rowG zs ks (i * len ks)) n.toNat 0))
    | _, _, _, _ => .bad
  | _, _, _ => .bad
theorem globIdx_ok {P : Program} {T : Tab} (hT : TOk P T) {ρ I L} {w : World} (hM : Mod ρ I L w) {t g : Nat} {u v : V} {x y : Value} (hg : u = .glob g) (hu : Rel ρ I u x) (hv : Rel ρ I v y) (s : Sem Next)
    (hs : s.run P w = ((Instr.indexAt t x y).run P w).andThen fun v w' => .ok (.value v) w') : (globIdx T t g v).Ok P ρ I L w s := by
  subst hg
  cases hu
  unfold globIdx
  split <;> try trivial
  rename_i ks zs m e kk n hlk hty
  cases hv
  split <;> try trivial
  rename_i hke hsz hmz hpos
  have hk : (T t).ty.known = true := by rw [hty]; rfl
  obtain ⟨d, hd, hdo⟩ := under hT hk
  rw [hty] at hdo
  cases d <;> simp [DescOk] at hdo
  obtain ⟨hA, hB⟩ := hdo
  rw [hA, hB] at hd
  intro hc
  obtain ⟨h0, h1⟩ := guard2 hc
  obtain ⟨el, fz, hI⟩ := hM.glob _ (lookG_mem hlk)
  have e1 := natEq_eq hsz
  have e2 := natEq_eq hmz
  have hp : 0 < ks.length := by have := Nat.le_of_ble_eq_true hpos; rw [len_eq] at this; omega
  have hdiv : zs.length / ks.length = m := by rw [← len_eq zs, ← e2, len_eq ks]; exact Nat.mul_div_cancel _ hp
  refine ⟨_, .ep (len ks) m (fun i => rowG zs ks (i * len ks)) n.toNat 0 g 0 _ el fz hI (by omega) (fun i _ => by rw [rowG_length, len_eq]) (fun i hi => ?_), .inl ?_⟩
  · simp only [cellsX, hdiv, Nat.zero_add, len_eq]
    rw [flat_row (fun i => rowX_length zs ks _) hi]
    exact rowG_rel _ _ _ _ _
  · rw [hs]
    simp only [Instr.indexAt, Instr.sureAddr, asIntOf, Sem.run_bind, Sem.run_pure, Result.andThen_ok, run_underlying hd, h0, h1, and_self, if_true, run_sizeOf hT hke, addr_add]
    simp only [Nat.zero_add, Nat.add_zero, e1]
def indexAddrG (T : Tab) (t : Nat) (x ix : V) : PR :=
  match x with
  | .glob g => globIdx T t g ix
  | x => indexAddrV T t x ix
theorem indexAddrG_ok {P : Program} {T : Tab} (hT : TOk P T) {ρ I L} {w : World} (hM : Mod ρ I L w) {t : Nat} {u v : V} {x y : Value} (hu : Rel ρ I u x) (hv : Rel ρ I v y) (s : Sem Next)
    (hs : s.run P w = ((Instr.indexAt t x y).run P w).andThen fun v w' => .ok (.value v) w') : (indexAddrG T t u v).Ok P ρ I L w s := by
  unfold indexAddrG
  split
  · exact globIdx_ok hT hM rfl hu hv s hs
  · exact indexAddr_ok hT hu hv s hs
end Go.Vx
