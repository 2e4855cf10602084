/- Regions that draw their order: whatever the order, operations that do not meddle with one another come to the same. What does not speak of values. Regions that draw their order: operations with what each reads and writes; done in any order they come to the same memory. -/
import Derived.Test.YtkhbmendaapojaaGreatDoorPkBa6
import Derived.OrdersIn
set_option linter.unusedSimpArgs false
set_option linter.unusedVariables false
/- Regions that draw their order: whatever the order, operations that do not meddle with one another come to the same. What does not speak of values. -/
namespace Go.Vx
open Go Go.RowKit

/-- What binds an operation to come later than others: all of it. -/
def AncOk (ops : Array Oper) (A : Nat → Nat) : Prop :=
  ∀ i o, ops[i]? = some o → ∀ b, Nat.testBit (A i) b = true → ∃ e ∈ o.after.toList, Region.binds .any e = true ∧ (b = e.on ∨ (e.on < i ∧ Nat.testBit (A e.on) b = true))
def BackOk (ops : Array Oper) : Prop := ∀ i o, ops[i]? = some o → ∀ e ∈ o.after.toList, Region.binds .any e = true → e.on < i
/-- The operations ahead of k are done. -/
def Lst (ops : Array Oper) (k : Nat) (l : Array Bool) : Prop := l.size = ops.size ∧ ∀ i, i < ops.size → l.getD i false = decide (i < k)
/-- All that comes at k or later comes later than all ahead of k. -/
def Cut (ops : Array Oper) (A : Nat → Nat) (k : Nat) : Prop := ∀ i, k ≤ i → i < ops.size → ∀ e, e < k → Nat.testBit (A i) e = true

theorem getD_true {l : Array Bool} {i : Nat} (h : i < l.size) : l.getD i true = l.getD i false := by
  simp [Array.getD_eq_getD_getElem?, h]

theorem mem_ready {ops : Array Oper} {l : Array Bool} (hl : l.size = ops.size) {i : Nat} :
    i ∈ Region.ready .any ops l ↔ i < ops.size ∧ l.getD i false = false ∧ ∀ o, ops[i]? = some o → ∀ e ∈ o.after.toList, Region.binds .any e = true → l.getD e.on false = true := by
  unfold Region.ready
  rw [List.mem_filter, List.mem_range]
  constructor
  · rintro ⟨h1, h2⟩
    simp only [Bool.and_eq_true, Bool.not_eq_true'] at h2
    refine ⟨h1, by rw [← getD_true (by omega)]; exact h2.1, ?_⟩
    intro o ho e he hb
    have h3 := h2.2
    rw [ho] at h3
    simp only [Option.map_some, Option.getD_some] at h3
    have := (Array.all_eq_true_iff_forall_mem.1 h3) e (by simpa using he)
    simpa [hb] using this
  · rintro ⟨h1, h2, h3⟩
    refine ⟨h1, ?_⟩
    simp only [Bool.and_eq_true, Bool.not_eq_true']
    refine ⟨by rw [getD_true (by omega)]; exact h2, ?_⟩
    have ho : ops[i]? = some ops[i] := by simp [h1]
    rw [ho]
    simp only [Option.map_some, Option.getD_some]
    refine Array.all_eq_true_iff_forall_mem.2 fun e he => ?_
    cases hb : Region.binds .any e with
    | false => rfl
    | true => simpa using h3 _ ho e (by simpa using he) hb

theorem least {p : Nat → Bool} : ∀ (n : Nat), p n = true → ∃ i, i ≤ n ∧ p i = true ∧ ∀ j, j < i → p j = false
  | n, h => by
    induction n using Nat.strongRecOn with
    | ind n ih =>
      by_cases hc : ∃ j, j < n ∧ p j = true
      · obtain ⟨j, h1, h2⟩ := hc
        obtain ⟨i, h3, h4, h5⟩ := ih j h1 h2
        exact ⟨i, by omega, h4, h5⟩
      · refine ⟨n, Nat.le_refl _, h, fun j hj => ?_⟩
        cases hp : p j with
        | false => rfl
        | true => exact absurd ⟨j, hj, hp⟩ hc

/-- How many of the n from k on are not done. -/
def left (D : Nat → Bool) (k : Nat) : Nat → Nat
  | 0 => 0
  | n + 1 => left D k n + (if D (k + n) = true then 0 else 1)
theorem left_pos {D : Nat → Bool} {k : Nat} : ∀ {n : Nat}, left D k n ≠ 0 → ∃ i, k ≤ i ∧ i < k + n ∧ D i = false
  | 0, h => by simp [left] at h
  | n + 1, h => by
    by_cases hD : D (k + n) = true
    · simp [left, hD] at h
      obtain ⟨i, h1, h2, h3⟩ := left_pos h
      exact ⟨i, h1, by omega, h3⟩
    · exact ⟨k + n, by omega, by omega, by simpa using hD⟩
theorem left_zero {D : Nat → Bool} {k : Nat} : ∀ {n : Nat}, left D k n = 0 → ∀ i, k ≤ i → i < k + n → D i = true
  | 0, _, i, _, _ => by omega
  | n + 1, h, i, h1, h2 => by
    simp only [left] at h
    by_cases hi : i = k + n
    · subst hi; by_cases hD : D (k + n) = true
      · exact hD
      · simp [hD] at h
    · exact left_zero (n := n) (by omega) i h1 (by omega)
def upD (D : Nat → Bool) (i : Nat) : Nat → Bool := fun j => if j = i then true else D j
theorem left_up {D : Nat → Bool} {k i : Nat} (hD : D i = false) : ∀ {n : Nat}, k ≤ i → i < k + n → left D k n = left (upD D i) k n + 1
  | 0, _, _ => by omega
  | n + 1, h1, h2 => by
    simp only [left]
    by_cases hi : i = k + n
    · subst hi
      have hsame : ∀ m, m ≤ n → left D k m = left (upD D (k + n)) k m := by
        intro m; induction m with
        | zero => intro _; rfl
        | succ m ih =>
          intro hm
          simp only [left, ih (by omega)]
          have : upD D (k + n) (k + m) = D (k + m) := by simp [upD]; intro h; omega
          rw [this]
      rw [hsame n (Nat.le_refl _)]
      simp [hD, upD]
    · rw [left_up hD (n := n) h1 (by omega)]
      have : upD D i (k + n) = D (k + n) := by simp [upD]; intro h; omega
      rw [this]; omega
theorem left_none {k : Nat} : ∀ (n : Nat), left (fun _ => false) k n = n
  | 0 => rfl
  | n + 1 => by simp [left, left_none n]

section
variable {r : Option Nat → Fence} {F : Fence} {P : Program} {ops : Array Oper} {Q : Exit → Act → World → Prop} {A : Nat → Nat}

/-- Is an operation done, where those ahead of k0 are, and of those from k0 to k1 those of D? -/
def doneB (k0 k1 : Nat) (D : Nat → Bool) (i : Nat) : Bool := decide (i < k0) || (decide (i < k1) && D i)

theorem anc_done (hA : AncOk ops A) {l : Array Bool} (hl : l.size = ops.size)
    (hcl : ∀ i o, ops[i]? = some o → l.getD i false = true → ∀ e ∈ o.after.toList, Region.binds .any e = true → l.getD e.on false = true) :
    ∀ (i : Nat) o, ops[i]? = some o → (∀ e ∈ o.after.toList, Region.binds .any e = true → l.getD e.on false = true) → ∀ b, Nat.testBit (A i) b = true → l.getD b false = true := by
  intro i
  induction i using Nat.strongRecOn with
  | ind i ih =>
    intro o ho he b hb
    obtain ⟨e, h1, h2, h3⟩ := hA i o ho b hb
    rcases h3 with h3 | ⟨h3, h4⟩
    · subst h3; exact he e h1 h2
    · have hd := he e h1 h2
      have hlt : e.on < ops.size := by
        rw [← hl]
        by_cases hlt : e.on < l.size
        · exact hlt
        · simp [Array.getD_eq_getD_getElem?, show l.size ≤ e.on by omega] at hd
      have ho' : ops[e.on]? = some ops[e.on] := by simp [hlt]
      exact ih e.on h3 _ ho' (hcl e.on _ ho' hd) b h4

/-- THE ORDER DOES NOT MATTER: a state for each set of operations that are done. -/
theorem seg_any (hA : AncOk ops A) (hB : BackOk ops) {k0 n : Nat} (hk : k0 + n ≤ ops.size) (hcut : Cut ops A (k0 + n))
    (S : (Nat → Bool) → Act → World → Prop)
    (hstep : ∀ D i a w, k0 ≤ i → i < k0 + n → D i = false → (∀ e, Nat.testBit (A i) e = true → k0 ≤ e → D e = true) →
      (∀ j, k0 ≤ j → j < k0 + n → D j = true → ∀ e, Nat.testBit (A j) e = true → k0 ≤ e → D e = true) →
      S D a w → ∀ K : Act → World → Prop, (∀ a' w', S (upD D i) a' w' → K a' w') → wpOpIn F 0 P ops Q i K a w)
    (hnext : ∀ D a w, (∀ i, k0 ≤ i → i < k0 + n → D i = true) → S D a w → ∀ l, Lst ops (k0 + n) l → wpAnyIn F 0 P .any ops Q (ops.size - (k0 + n)) l a w) :
    ∀ (m : Nat) (D : Nat → Bool) (l : Array Bool) a w, left D k0 n = m → l.size = ops.size → (∀ i, i < ops.size → l.getD i false = doneB k0 (k0 + n) D i) →
      (∀ i o, ops[i]? = some o → l.getD i false = true → ∀ e ∈ o.after.toList, Region.binds .any e = true → l.getD e.on false = true) →
      S D a w → wpAnyIn F 0 P .any ops Q (ops.size - (k0 + n) + m) l a w := by
  intro m
  induction m with
  | zero =>
    intro D l a w hm hl hD hcl hS
    have hall := left_zero hm
    refine hnext D a w hall hS l ⟨hl, fun i hi => ?_⟩
    rw [hD i hi]
    unfold doneB
    by_cases h1 : i < k0 + n
    · by_cases h2 : i < k0
      · simp [h1, h2]
      · simp [h1, hall i (by omega) h1]
    · simp [h1]; omega
  | succ m ih =>
    intro D l a w hm hl hD hcl hS
    obtain ⟨i0, g1, g2, g3⟩ := left_pos (D := D) (k := k0) (n := n) (by omega)
    rw [show ops.size - (k0 + n) + (m + 1) = (ops.size - (k0 + n) + m) + 1 by omega]
    refine ⟨fun hnil => ?_, fun i hi => ?_⟩
    · -- the first that is not done is ready
      exfalso
      obtain ⟨i, h1, h2, h3⟩ := least (p := fun i => !doneB k0 (k0 + n) D i && decide (i < k0 + n)) i0 (by
        have h1 : ¬ i0 < k0 := by omega
        simp [doneB, g2, g3, h1])
      simp only [Bool.and_eq_true, Bool.not_eq_true', decide_eq_true_eq] at h2
      have hlt : i < ops.size := by omega
      have : i ∈ Region.ready .any ops l := (mem_ready hl).2 ⟨hlt, by rw [hD i hlt]; exact h2.1, fun o ho e he hb => by
        have hback := hB i o ho e he hb
        rw [hD e.on (by omega)]
        have := h3 e.on hback
        simp only [Bool.and_eq_false_iff, Bool.not_eq_false', decide_eq_false_iff_not] at this
        rcases this with h | h
        · exact h
        · omega⟩
      rw [hnil] at this
      simp at this
    · obtain ⟨h1, h2, h3⟩ := (mem_ready hl).1 hi
      have ho : ops[i]? = some ops[i] := by simp [h1]
      have hanc := anc_done hA hl hcl i _ ho (h3 _ ho)
      rw [hD i h1] at h2
      have h4 : ¬ i < k0 := fun h => by simp [doneB, h] at h2
      have h5 : i < k0 + n := by
        by_cases h5 : i < k0 + n
        · exact h5
        · exfalso
          have := hanc i0 (hcut i (by omega) h1 i0 g2)
          rw [hD i0 (by omega)] at this
          have h7 : ¬ i0 < k0 := by omega
          simp [doneB, g3, h7] at this
      have h6 : D i = false := by simpa [doneB, h4, h5] using h2
      have dn : ∀ e, l.getD e false = true → k0 ≤ e → D e = true := by
        intro e he hk
        have hlt : e < ops.size := by
          rw [← hl]
          by_cases hlt : e < l.size
          · exact hlt
          · simp [Array.getD_eq_getD_getElem?, show l.size ≤ e by omega] at he
        rw [hD e hlt] at he
        have h7 : ¬ e < k0 := by omega
        simp [doneB, h7] at he
        exact he.2
      refine hstep D i a w (by omega) h5 h6 (fun e he hk => dn e (hanc e he) hk) ?_ hS _ ?_
      · intro j hj1 hj2 hDj e he hk
        have hjl : j < ops.size := by omega
        have hoj : ops[j]? = some ops[j] := by simp [hjl]
        have hlj : l.getD j false = true := by rw [hD j hjl]; simp [doneB, hj2, hDj]
        exact dn e (anc_done hA hl hcl j _ hoj (hcl j _ hoj hlj) e he) hk
      · intro a' w' hS'
        have hget : ∀ j, (l.setIfInBounds i true).getD j false = if j = i then true else l.getD j false := by
          intro j
          simp only [Array.getD_eq_getD_getElem?, Array.getElem?_setIfInBounds]
          by_cases hj : i = j
          · subst hj; simp [hl, h1]
          · have : ¬ j = i := fun h => hj h.symm
            simp [hj, this]
        refine ih (upD D i) (l.setIfInBounds i true) a' w' (by have := left_up h6 (n := n) (k := k0) (by omega) h5; omega) (by simpa using hl) ?_ ?_ hS'
        · intro j hj
          rw [hget j]
          by_cases hji : j = i
          · subst hji; simp [doneB, upD, h5]
          · rw [hD j hj]; simp [doneB, upD, hji]
        · intro j o hoj hlj e he hb
          rw [hget] at hlj ⊢
          split
          · rfl
          · split at hlj
            · rename_i hji; subst hji; rw [ho] at hoj; cases hoj; exact h3 _ ho e he hb
            · exact hcl j o hoj hlj e he hb

/-- From one cut to the next. -/
theorem seg_next (hA : AncOk ops A) (hB : BackOk ops) {k0 n : Nat} (hk : k0 + n ≤ ops.size) (hcut : Cut ops A (k0 + n))
    (S : (Nat → Bool) → Act → World → Prop)
    (hstep : ∀ D i a w, k0 ≤ i → i < k0 + n → D i = false → (∀ e, Nat.testBit (A i) e = true → k0 ≤ e → D e = true) →
      (∀ j, k0 ≤ j → j < k0 + n → D j = true → ∀ e, Nat.testBit (A j) e = true → k0 ≤ e → D e = true) →
      S D a w → ∀ K : Act → World → Prop, (∀ a' w', S (upD D i) a' w' → K a' w') → wpOpIn F 0 P ops Q i K a w)
    (hnext : ∀ D a w, (∀ i, k0 ≤ i → i < k0 + n → D i = true) → S D a w → ∀ l, Lst ops (k0 + n) l → wpAnyIn F 0 P .any ops Q (ops.size - (k0 + n)) l a w)
    {a : Act} {w : World} (h0 : S (fun _ => false) a w) (l : Array Bool) (hl : Lst ops k0 l) : wpAnyIn F 0 P .any ops Q (ops.size - k0) l a w := by
  have := seg_any hA hB hk hcut S hstep hnext n (fun _ => false) l a w (left_none n) hl.1 (fun i hi => by rw [hl.2 i hi]; simp [doneB]) (fun i o ho hi e he hb => by
    have hlt := (Array.getElem?_eq_some_iff.1 ho).1
    have hback := hB i o ho e he hb
    rw [hl.2 i hlt] at hi
    rw [hl.2 e.on (by omega)]
    simp at hi ⊢; omega) h0
  rw [show ops.size - (k0 + n) + n = ops.size - k0 by omega] at this
  exact this

/-- One operation between two cuts. -/
theorem one_next (hA : AncOk ops A) (hB : BackOk ops) {k : Nat} (hk : k + 1 ≤ ops.size) (hcut : Cut ops A (k + 1)) {a : Act} {w : World}
    (h : wpOpIn F 0 P ops Q k (fun a w => ∀ l, Lst ops (k + 1) l → wpAnyIn F 0 P .any ops Q (ops.size - (k + 1)) l a w) a w) (l : Array Bool) (hl : Lst ops k l) : wpAnyIn F 0 P .any ops Q (ops.size - k) l a w := by
  refine seg_next hA hB hk hcut (fun D a' w' => match D k with
    | true => ∀ l, Lst ops (k + 1) l → wpAnyIn F 0 P .any ops Q (ops.size - (k + 1)) l a' w'
    | false => a' = a ∧ w' = w) ?_ ?_ ⟨rfl, rfl⟩ l hl
  · intro D i a' w' h1 h2 hD _ _ hS K hK
    have : i = k := by omega
    subst this
    rw [hD] at hS
    obtain ⟨rfl, rfl⟩ := hS
    refine wpOpIn_mono (fun a2 w2 h2 => hK a2 w2 ?_) h
    simp only [upD, if_true]
    exact h2
  · intro D a' w' hD hS l hl
    rw [hD k (Nat.le_refl _) (by omega)] at hS
    exact hS l hl

theorem all_done {a : Act} {w : World} (h : Q .normal a w) (l : Array Bool) (hl : Lst ops ops.size l) : wpAnyIn F 0 P .any ops Q (ops.size - ops.size) l a w := by
  rw [Nat.sub_self]
  refine ⟨?_, h⟩
  cases hr : Region.ready .any ops l with
  | nil => rfl
  | cons i t =>
    have hi : i ∈ Region.ready .any ops l := by rw [hr]; simp
    obtain ⟨h1, h2, _⟩ := (mem_ready hl.1).1 hi
    rw [hl.2 i h1] at h2
    simp at h2; omega

theorem none_done : Lst ops 0 (Array.replicate ops.size false) := ⟨by simp, fun i hi => by simp [Array.getD_eq_getD_getElem?, hi]⟩
end

end Go.Vx
/- Regions that draw their order: operations with what each reads and writes; done in any order they come to the same memory. -/
namespace Go.Vx
open Go Go.RowKit

/-! ### Lists that agree where a mask says -/
structure Agree {α : Type} (m : Nat) (l l' : List α) : Prop where
  len : l.length = l'.length
  get : ∀ s, Nat.testBit m s = true → l[s]? = l'[s]?
theorem Agree.refl {α : Type} (m : Nat) (l : List α) : Agree m l l := ⟨rfl, fun _ _ => rfl⟩
theorem Agree.set {α : Type} {m : Nat} {l l' : List α} (h : Agree m l l') (t : Nat) (x : α) : Agree m (l.set t x) (l'.set t x) := by
  refine ⟨by simp [h.len], fun s hs => ?_⟩
  by_cases ht : t = s
  · subst ht; simp [List.getElem?_set, h.len]
  · simp [List.getElem?_set_ne ht, h.get s hs]
theorem Agree.off {α : Type} {m : Nat} {l l' : List α} (h : Agree m l l') {t : Nat} (ht : Nat.testBit m t = false) (x : α) : Agree m (l.set t x) l' := by
  refine ⟨by simp [h.len], fun s hs => ?_⟩
  have : t ≠ s := fun e => by subst e; rw [ht] at hs; cases hs
  simp [List.getElem?_set_ne this, h.get s hs]
theorem Agree.symm {α : Type} {m : Nat} {l l' : List α} (h : Agree m l l') : Agree m l' l := ⟨h.len.symm, fun s hs => (h.get s hs).symm⟩

def putsL {α : Type} : List α → List (Nat × α) → List α
  | l, [] => l
  | l, (t, x) :: ws => putsL (l.set t x) ws
theorem putsL_len {α : Type} : ∀ (ws : List (Nat × α)) (l : List α), (putsL l ws).length = l.length
  | [], _ => rfl
  | (t, x) :: ws, l => by simp [putsL, putsL_len ws]
theorem Agree.puts {α : Type} {m : Nat} : ∀ {ws : List (Nat × α)} {l l' : List α}, Agree m l l' → Agree m (putsL l ws) (putsL l' ws)
  | [], _, _, h => h
  | (t, x) :: ws, _, _, h => Agree.puts (ws := ws) (h.set t x)
theorem Agree.putsOff {α : Type} {m : Nat} : ∀ {ws : List (Nat × α)} {l l' : List α}, Agree m l l' → (∀ p ∈ ws, Nat.testBit m p.1 = false) → Agree m (putsL l ws) l'
  | [], _, _, h, _ => h
  | (t, x) :: ws, _, _, h, hw => Agree.putsOff (ws := ws) (h.off (hw (t, x) (by simp)) x) fun p hp => hw p (by simp [hp])
theorem puts_set_comm {α : Type} : ∀ {ws : List (Nat × α)} {l : List α} {t : Nat} {x : α}, (∀ p ∈ ws, p.1 ≠ t) → putsL (l.set t x) ws = (putsL l ws).set t x
  | [], _, _, _, _ => rfl
  | (s, y) :: ws, l, t, x, h => by
    have hs := h (s, y) (by simp)
    simp only [putsL]
    rw [List.set_comm _ _ (Ne.symm hs)]
    exact puts_set_comm fun p hp => h p (by simp [hp])
theorem puts_comm {α : Type} : ∀ {a b : List (Nat × α)} {l : List α}, (∀ p ∈ a, ∀ q ∈ b, p.1 ≠ q.1) → putsL (putsL l a) b = putsL (putsL l b) a
  | [], _, _, _ => rfl
  | (t, x) :: a, b, l, h => by
    simp only [putsL]
    rw [puts_comm (a := a) fun p hp => h p (by simp [hp])]
    rw [puts_set_comm fun q hq => Ne.symm (h (t, x) (by simp) q hq)]

/-- The writes of the operations of D, in the text's order. -/
def ap {α : Type} (D : Nat → Bool) : Nat → List (List (Nat × α)) → List α → List α
  | _, [], l => l
  | i, ws :: rest, l => ap D (i + 1) rest (match D i with | true => putsL l ws | false => l)
theorem ap_len {α : Type} {D : Nat → Bool} : ∀ (wss : List (List (Nat × α))) (i : Nat) (l : List α), (ap D i wss l).length = l.length
  | [], _, _ => rfl
  | ws :: wss, i, l => by
    simp only [ap]; rw [ap_len wss]
    split <;> simp [putsL_len]
theorem ap_agree {α : Type} {m : Nat} {D D' : Nat → Bool} : ∀ {wss : List (List (Nat × α))} {i : Nat} {l l' : List α}, Agree m l l' →
    (∀ k ws, wss[k]? = some ws → D (i + k) = D' (i + k) ∨ ∀ p ∈ ws, Nat.testBit m p.1 = false) → Agree m (ap D i wss l) (ap D' i wss l')
  | [], _, _, _, h, _ => h
  | ws :: wss, i, l, l', h, hd => by
    simp only [ap]
    refine ap_agree ?_ fun k w hk => by have := hd (k + 1) w (by simpa using hk); rw [show i + 1 + k = i + (k + 1) by omega]; exact this
    rcases hd 0 ws (by simp) with h0 | h0
    · simp only [Nat.add_zero] at h0
      rw [h0]
      cases D' i
      · exact h
      · exact h.puts
    · cases D i <;> cases D' i <;> simp only
      · exact h
      · exact (h.symm.putsOff h0).symm
      · exact h.putsOff h0
      · exact h.puts
theorem ap_insert {α : Type} {D : Nat → Bool} : ∀ {wss : List (List (Nat × α))} {i k : Nat} {l : List α} {ws : List (Nat × α)}, wss[k]? = some ws → D (i + k) = false →
    (∀ k' ws', k < k' → wss[k']? = some ws' → D (i + k') = true → ∀ p ∈ ws', ∀ q ∈ ws, p.1 ≠ q.1) → ap (upD D (i + k)) i wss l = putsL (ap D i wss l) ws
  | [], _, _, _, _, h, _, _ => by simp at h
  | w0 :: wss, i, 0, l, ws, h, hD, hd => by
    simp at h; subst h
    simp only [Nat.add_zero] at hD
    simp only [ap, upD, Nat.add_zero, if_true, hD]
    have key : ∀ (wss : List (List (Nat × α))) (j : Nat) (l : List α), i < j → (∀ k' ws', wss[k']? = some ws' → D (j + k') = true → ∀ p ∈ ws', ∀ q ∈ w0, p.1 ≠ q.1) →
        ap (fun j => if j = i then true else D j) j wss (putsL l w0) = putsL (ap D j wss l) w0 := by
      intro wss
      induction wss with
      | nil => intro j l _ _; rfl
      | cons a wss ih =>
        intro j l hj hd
        have hne : ¬ j = i := by omega
        simp only [ap, hne, if_false]
        cases hDj : D j with
        | false => exact ih (j + 1) l (by omega) fun k' ws' hk hD' => hd (k' + 1) ws' (by simpa using hk) (by rw [show j + (k' + 1) = j + 1 + k' by omega]; exact hD')
        | true =>
          simp only
          rw [puts_comm fun q hq p hp => Ne.symm (hd 0 a (by simp) (by simpa using hDj) p hp q hq)]
          exact ih (j + 1) (putsL l a) (by omega) fun k' ws' hk hD' => hd (k' + 1) ws' (by simpa using hk) (by rw [show j + (k' + 1) = j + 1 + k' by omega]; exact hD')
    exact key wss (i + 1) l (by omega) fun k' ws' hk hD' => hd (k' + 1) ws' (by omega) (by simpa using hk) (by rw [show i + (k' + 1) = i + 1 + k' by omega]; exact hD')
  | w0 :: wss, i, k + 1, l, ws, h, hD, hd => by
    have hne : upD D (i + (k + 1)) i = D i := by simp [upD]
    simp only [ap, hne]
    rw [show i + (k + 1) = i + 1 + k by omega] at hD ⊢
    refine ap_insert (i := i + 1) (k := k) (by simpa using h) hD fun k' ws' hk hw hD' => hd (k' + 1) ws' (by omega) (by simpa using hw) (by rw [show i + (k' + 1) = i + 1 + k' by omega]; exact hD')
theorem ap_snoc {α : Type} {D : Nat → Bool} : ∀ {wss : List (List (Nat × α))} {i : Nat} {l : List α} {ws : List (Nat × α)}, ap D i (wss ++ [ws]) l = match D (i + wss.length) with | true => putsL (ap D i wss l) ws | false => ap D i wss l
  | [], i, l, ws => by simp [ap]
  | w0 :: wss, i, l, ws => by
    simp only [List.cons_append, ap, List.length_cons]
    rw [ap_snoc, show i + 1 + wss.length = i + (wss.length + 1) by omega]
theorem ap_all {α : Type} {D D' : Nat → Bool} : ∀ {wss : List (List (Nat × α))} {i : Nat} {l : List α}, (∀ k, k < wss.length → D (i + k) = D' (i + k)) → ap D i wss l = ap D' i wss l
  | [], _, _, _ => rfl
  | ws :: wss, i, l, h => by
    simp only [ap]
    have := h 0 (by simp)
    simp only [Nat.add_zero] at this
    rw [this]
    exact ap_all fun k hk => by have := h (k + 1) (by simpa using hk); rw [show i + 1 + k = i + (k + 1) by omega]; exact this

/-! ### An operation's record -/
structure Rec where
  ws : List (Nat × V)
  up : List (Nat × Blk)
  m : Nat
  rt : Nat
  db : Nat
  wt : Nat

def bitsOf {α : Type} : List (Nat × α) → Nat
  | [] => 0
  | (t, _) :: l => Nat.lor (Nat.shiftLeft 1 t) (bitsOf l)
theorem bit_one (t s : Nat) : Nat.testBit (Nat.shiftLeft 1 t) s = decide (s = t) := by
  show (1 <<< t).testBit s = _
  rw [Nat.one_shiftLeft, Nat.testBit_two_pow]
  simp [eq_comm]
theorem bit_lor (a b s : Nat) : Nat.testBit (Nat.lor a b) s = (Nat.testBit a s || Nat.testBit b s) := Nat.testBit_or a b s
theorem bit_land (a b s : Nat) : Nat.testBit (Nat.land a b) s = (Nat.testBit a s && Nat.testBit b s) := Nat.testBit_and a b s
theorem bitsOf_mem {α : Type} {l : List (Nat × α)} {p : Nat × α} (h : p ∈ l) : Nat.testBit (bitsOf l) p.1 = true := by
  induction l with
  | nil => simp at h
  | cons q l ih =>
    obtain ⟨t, x⟩ := q
    simp only [bitsOf, bit_lor, bit_one, Bool.or_eq_true, decide_eq_true_eq]
    rcases List.mem_cons.1 h with rfl | h
    · exact .inl rfl
    · exact .inr (ih h)

/-- Do two operations meddle with one another? -/
def cfl (a b : Rec) : Nat :=
  Nat.lor (Nat.lor (Nat.land a.db (Nat.lor b.db b.m)) (Nat.land b.db a.m)) (Nat.lor (Nat.land a.wt (Nat.lor b.wt b.rt)) (Nat.land b.wt a.rt))
theorem cfl_zero {a b : Rec} (h : cfl a b = 0) (s : Nat) :
    (Nat.testBit a.db s = true → Nat.testBit b.db s = false ∧ Nat.testBit b.m s = false) ∧ (Nat.testBit b.db s = true → Nat.testBit a.m s = false) ∧
    (Nat.testBit a.wt s = true → Nat.testBit b.wt s = false ∧ Nat.testBit b.rt s = false) ∧ (Nat.testBit b.wt s = true → Nat.testBit a.rt s = false) := by
  have := congrArg (fun x => Nat.testBit x s) h
  simp only [cfl, bit_lor, bit_land, Nat.zero_testBit, Bool.or_eq_false_iff, Bool.and_eq_false_iff] at this
  obtain ⟨⟨h1, h2⟩, h3, h4⟩ := this
  refine ⟨fun h => ?_, fun h => ?_, fun h => ?_, fun h => ?_⟩
  · rw [h] at h1; rcases h1 with h1 | h1
    · cases h1
    · exact h1
  · rw [h] at h2; rcases h2 with h2 | h2
    · cases h2
    · exact h2
  · rw [h] at h3; rcases h3 with h3 | h3
    · cases h3
    · exact h3
  · rw [h] at h4; rcases h4 with h4 | h4
    · cases h4
    · exact h4

def bitOn (a i : Nat) : Bool := Nat.beq (Nat.mod (Nat.shiftRight a i) 2) 1
theorem bitOn_eq (a i : Nat) : bitOn a i = Nat.testBit a i := by
  have h : Nat.testBit a i = decide (a >>> i % 2 = 1) := by
    rw [Nat.testBit_eq_decide_div_mod_eq, Nat.shiftRight_eq_div_pow]
  rw [h]
  show Nat.beq (a >>> i % 2) 1 = _
  by_cases hx : a >>> i % 2 = 1
  · rw [hx]; rfl
  · rw [decide_eq_false hx]
    cases hb : Nat.beq (a >>> i % 2) 1 with
    | false => rfl
    | true => exact absurd (Nat.eq_of_beq_eq_true hb) hx
/-- The closed part of a record. -/
structure RB where
  m : Nat
  rt : Nat
  db : Nat
  wt : Nat
def Rec.b (r : Rec) : RB := ⟨r.m, r.rt, r.db, r.wt⟩
def cflB (a b : RB) : Nat :=
  Nat.lor (Nat.lor (Nat.land a.db (Nat.lor b.db b.m)) (Nat.land b.db a.m)) (Nat.lor (Nat.land a.wt (Nat.lor b.wt b.rt)) (Nat.land b.wt a.rt))
def okB (anc : Nat) (r : RB) : Nat → List RB → Bool
  | i + 1, r' :: acc => match bitOn anc i with
    | true => okB anc r i acc
    | false => match Nat.beq (cflB r' r) 0 with
      | true => okB anc r i acc
      | false => false
  | _, _ => true
/-- An operation's record against those ahead of it (the last first; i: how many). -/
def okR (anc : Nat) (r : Rec) : Nat → List Rec → Bool
  | i + 1, r' :: acc => match bitOn anc i with
    | true => okR anc r i acc
    | false => match Nat.beq (cfl r' r) 0 with
      | true => okR anc r i acc
      | false => false
  | _, _ => true
theorem okB_eq {anc : Nat} {r : Rec} : ∀ {i : Nat} {acc : List Rec}, okB anc r.b i (acc.map Rec.b) = okR anc r i acc
  | 0, _ => by simp [okB, okR]
  | _ + 1, [] => by simp [okB, okR]
  | i + 1, r' :: acc => by
    simp only [List.map_cons, okB, okR, okB_eq (i := i) (acc := acc)]
    have : cflB r'.b r.b = cfl r' r := rfl
    rw [this]
theorem okR_get {anc : Nat} {r : Rec} {k0 : Nat} : ∀ {acc : List Rec}, okR anc r (k0 + acc.length) acc = true → ∀ k r', acc.reverse[k]? = some r' → Nat.testBit anc (k0 + k) = true ∨ cfl r' r = 0
  | [], _, k, r', h => by simp at h
  | q :: acc, h, k, r', hk => by
    rw [List.length_cons, ← Nat.add_assoc] at h
    simp only [okR, bitOn_eq] at h
    simp only [List.reverse_cons] at hk
    by_cases hlt : k < acc.length
    · rw [List.getElem?_append_left (by simpa using hlt)] at hk
      split at h
      · exact okR_get h k r' hk
      · split at h
        · exact okR_get h k r' hk
        · cases h
    · have hk' := (List.getElem?_eq_some_iff.1 hk).1
      simp at hk'
      have : k = acc.length := by omega
      subst this
      rw [List.getElem?_append_right (by simp)] at hk
      simp at hk; subst hk
      split at h
      · rename_i hb; exact .inl hb
      · split at h
        · rename_i hc; exact .inr (Nat.eq_of_beq_eq_true hc)
        · cases h

/-- What a record says of its operation: whatever else is done, where what it reads is as it was in the text's order. -/
def RecOk (P : Program) (ops : Array Oper) (i tag : Nat) (tm : List V) (L : List Blk) (r : Rec) : Prop :=
  ∀ (rd : Option Nat) (ρ : List (Option TE)) (I : Imm) (a : Act) (w : World) (tm' : List V) (L' : List Blk), Agree r.m tm' tm → Agree r.rt L' L → Mod ρ I L' w → Rels ρ I tm' a.tmps.toList → (tag < ρ.length → ρ[tag]? = some none) →
    ∀ (Q : Exit → Act → World → Prop) (K : Act → World → Prop), (∀ a' w' ρ' I', a'.defers = a.defers → Mod ρ' I' (putsL L' r.up) w' → Rels ρ' I' (putsL tm' r.ws) a'.tmps.toList → Stp ρ I L' w ρ' I' (putsL L' r.up) w' →
      (∀ t, t ≠ tag → ρ'[t]? = ρ[t]?) → K a' w') → wpOpIn (FR rd) 0 P ops Q i K a w

/-- The records of the operations from k0 on (the last first), and the state in the text's order. -/
def RecsOk (P : Program) (ops : Array Oper) (A : Nat → Nat) (k0 base : Nat) (tm0 : List V) (L0 : List Blk) : List Rec → List V → List Blk → Prop
  | [], tm, L => tm = tm0 ∧ L = L0
  | r :: acc, tm, L => ∃ tm1 L1, RecsOk P ops A k0 base tm0 L0 acc tm1 L1 ∧ RecOk P ops (k0 + acc.length) (base + acc.length) tm1 L1 r ∧ tm = putsL tm1 r.ws ∧ L = putsL L1 r.up ∧
      r.db = bitsOf r.ws ∧ r.wt = bitsOf r.up ∧ okR (A (k0 + acc.length)) r (k0 + acc.length) acc = true

structure RecAt (P : Program) (ops : Array Oper) (A : Nat → Nat) (k0 base : Nat) (tm0 : List V) (L0 : List Blk) (rs : List Rec) (k : Nat) (r : Rec) : Prop where
  ok : RecOk P ops (k0 + k) (base + k) (ap (fun j => decide (j < k0 + k)) k0 (rs.map (·.ws)) tm0) (ap (fun j => decide (j < k0 + k)) k0 (rs.map (·.up)) L0) r
  db : r.db = bitsOf r.ws
  wt : r.wt = bitsOf r.up
  cf : ∀ k' r', k' < k → rs[k']? = some r' → Nat.testBit (A (k0 + k)) (k0 + k') = true ∨ cfl r' r = 0

theorem ap_lt {α : Type} {k0 : Nat} (wss : List (List (Nat × α))) (l : List α) (k : Nat) (hk : wss.length ≤ k) : ap (fun j => decide (j < k0 + k)) k0 wss l = ap (fun _ => true) k0 wss l :=
  ap_all fun j hj => by simp; omega

theorem RecsOk.at {P : Program} {ops : Array Oper} {A : Nat → Nat} {k0 base : Nat} {tm0 : List V} {L0 : List Blk} : ∀ {acc : List Rec} {tm : List V} {L : List Blk}, RecsOk P ops A k0 base tm0 L0 acc tm L →
    tm = ap (fun _ => true) k0 (acc.reverse.map (·.ws)) tm0 ∧ L = ap (fun _ => true) k0 (acc.reverse.map (·.up)) L0 ∧ ∀ k r, acc.reverse[k]? = some r → RecAt P ops A k0 base tm0 L0 acc.reverse k r
  | [], tm, L, h => by
    obtain ⟨rfl, rfl⟩ := h
    exact ⟨rfl, rfl, fun k r h => by simp at h⟩
  | q :: acc, tm, L, h => by
    obtain ⟨tm1, L1, h1, h2, rfl, rfl, h3, h4, h5⟩ := h
    obtain ⟨g1, g2, g3⟩ := RecsOk.at h1
    refine ⟨?_, ?_, ?_⟩
    · rw [List.reverse_cons, List.map_append, g1]; exact (ap_snoc (D := fun _ => true)).symm
    · rw [List.reverse_cons, List.map_append, g2]; exact (ap_snoc (D := fun _ => true)).symm
    · intro k r hk
      rw [List.reverse_cons] at hk
      have snoc : ∀ {α : Type} (f : Rec → List (Nat × α)) (l : List α) (k : Nat), k ≤ acc.length → ap (fun j => decide (j < k0 + k)) k0 ((acc.reverse ++ [q]).map f) l = ap (fun j => decide (j < k0 + k)) k0 (acc.reverse.map f) l := by
        intro α f l k hk
        rw [List.map_append]
        have := ap_snoc (D := fun j => decide (j < k0 + k)) (wss := acc.reverse.map f) (i := k0) (l := l) (ws := f q)
        rw [show [q].map f = [f q] from rfl, this]
        have : decide (k0 + (acc.reverse.map f).length < k0 + k) = false := by simp; omega
        rw [this]
      by_cases hlt : k < acc.length
      · rw [List.getElem?_append_left (by simpa using hlt)] at hk
        have := g3 k r hk
        rw [List.reverse_cons]
        refine ⟨?_, this.db, this.wt, ?_⟩
        · rw [snoc _ _ k (by omega), snoc _ _ k (by omega)]; exact this.ok
        · intro k' r' hk' hr'
          rw [List.getElem?_append_left (by simp; omega)] at hr'
          exact this.cf k' r' hk' hr'
      · have hk' := (List.getElem?_eq_some_iff.1 hk).1
        simp at hk'
        have : k = acc.length := by omega
        subst this
        rw [List.getElem?_append_right (by simp)] at hk
        simp at hk; subst hk
        rw [List.reverse_cons]
        refine ⟨?_, h3, h4, ?_⟩
        · rw [snoc _ _ _ (Nat.le_refl _), snoc _ _ _ (Nat.le_refl _), ap_lt _ _ _ (by simp), ap_lt _ _ _ (by simp), ← g1, ← g2]; exact h2
        · intro k' r' hk' hr'
          rw [List.getElem?_append_left (by simpa using hk')] at hr'
          exact okR_get h5 k' r' hr'

/-- FROM ONE CUT TO THE NEXT, BY RECORDS. -/
theorem recs_next {P : Program} {ops : Array Oper} {A : Nat → Nat} {Q : Exit → Act → World → Prop} (hA : AncOk ops A) (hB : BackOk ops) {k0 base : Nat} {tm0 : List V} {L0 : List Blk} {acc : List Rec} {tm : List V} {L : List Blk}
    (hR : RecsOk P ops A k0 base tm0 L0 acc tm L) (hk : k0 + acc.length ≤ ops.size) (hcut : Cut ops A (k0 + acc.length)) {rd : Option Nat} {ρ0 I0} {a0 : Act} {w0 : World}
    (hM : Mod ρ0 I0 L0 w0) (hT : Rels ρ0 I0 tm0 a0.tmps.toList) (hfree : ∀ t, base ≤ t → t < ρ0.length → ρ0[t]? = some none)
    (hnext : ∀ ρ I a w, Mod ρ I L w → Rels ρ I tm a.tmps.toList → a.defers = a0.defers → Stp ρ0 I0 L0 w0 ρ I L w → ∀ l, Lst ops (k0 + acc.length) l → wpAnyIn (FR rd) 0 P .any ops Q (ops.size - (k0 + acc.length)) l a w)
    (l : Array Bool) (hl : Lst ops k0 l) : wpAnyIn (FR rd) 0 P .any ops Q (ops.size - k0) l a0 w0 := by
  obtain ⟨g1, g2, g3⟩ := hR.at
  obtain ⟨rs, hrs⟩ : ∃ rs, rs = acc.reverse := ⟨_, rfl⟩
  have hlen : rs.length = acc.length := by rw [hrs]; simp
  rw [← hrs] at g1 g2 g3
  rw [← hlen] at hk hcut hnext
  refine seg_next hA hB hk hcut (fun D a w => ∃ ρ I, Mod ρ I (ap D k0 (rs.map (·.up)) L0) w ∧ Rels ρ I (ap D k0 (rs.map (·.ws)) tm0) a.tmps.toList ∧ a.defers = a0.defers ∧
      Stp ρ0 I0 L0 w0 ρ I (ap D k0 (rs.map (·.up)) L0) w ∧ ∀ k, k < rs.length → D (k0 + k) = false → base + k < ρ.length → ρ[base + k]? = some none) ?_ ?_ ?_ l hl
  · rintro D i a w hi1 hi2 hDi hanc hcl ⟨ρ, I, s1, s2, s3, s4, s5⟩ K hK
    obtain ⟨k, rfl⟩ : ∃ k, i = k0 + k := ⟨i - k0, by omega⟩
    have hklt : k < rs.length := by omega
    obtain ⟨r, hr⟩ : ∃ r, rs[k]? = some r := ⟨_, List.getElem?_eq_getElem hklt⟩
    have hat := g3 k r hr
    -- who of those that meddle with it is done
    have hmed : ∀ k' r', rs[k']? = some r' → (k' < k → cfl r' r ≠ 0 → D (k0 + k') = true) ∧ (k < k' → cfl r r' ≠ 0 → D (k0 + k') = false) := by
      intro k' r' hr'
      have hlt' := (List.getElem?_eq_some_iff.1 hr').1
      refine ⟨fun hlt hc => ?_, fun hlt hc => ?_⟩
      · rcases hat.cf k' r' hlt hr' with h | h
        · exact hanc _ h (by omega)
        · exact absurd h hc
      · cases hD' : D (k0 + k') with
        | false => rfl
        | true =>
          rcases (g3 k' r' hr').cf k r hlt hr with h | h
          · have := hcl (k0 + k') (by omega) (by omega) hD' _ h (by omega)
            rw [hDi] at this; cases this
          · exact absurd h hc
    have tw : ∀ (k' : Nat) ws, (rs.map (·.ws))[k']? = some ws → ∃ r', rs[k']? = some r' ∧ r'.ws = ws := by
      intro k' ws h; rw [List.getElem?_map] at h; cases hq : rs[k']? with
      | none => rw [hq] at h; cases h
      | some q => rw [hq] at h; simp at h; exact ⟨q, rfl, h⟩
    have tu : ∀ (k' : Nat) up, (rs.map (·.up))[k']? = some up → ∃ r', rs[k']? = some r' ∧ r'.up = up := by
      intro k' ws h; rw [List.getElem?_map] at h; cases hq : rs[k']? with
      | none => rw [hq] at h; cases h
      | some q => rw [hq] at h; simp at h; exact ⟨q, rfl, h⟩
    have hlt_or : ∀ k', k' < k ∨ k' = k ∨ k < k' := fun k' => by omega
    have a1 : Agree r.m (ap D k0 (rs.map (·.ws)) tm0) (ap (fun j => decide (j < k0 + k)) k0 (rs.map (·.ws)) tm0) := by
      refine ap_agree (Agree.refl _ _) fun k' ws hk' => ?_
      obtain ⟨r', hr', rfl⟩ := tw k' ws hk'
      obtain ⟨m1, m2⟩ := hmed k' r' hr'
      rcases hlt_or k' with h | h | h
      · by_cases hc : cfl r' r = 0
        · right; intro p hp
          have hb := bitsOf_mem hp
          rw [← (g3 k' r' hr').db] at hb
          exact ((cfl_zero hc p.1).1 hb).2
        · left; rw [m1 h hc]; simp; omega
      · subst h; left; rw [hDi]; simp
      · by_cases hc : cfl r r' = 0
        · right; intro p hp
          have hb := bitsOf_mem hp
          rw [← (g3 k' r' hr').db] at hb
          exact (cfl_zero hc p.1).2.1 hb
        · left; rw [m2 h hc]; simp; omega
    have a2 : Agree r.rt (ap D k0 (rs.map (·.up)) L0) (ap (fun j => decide (j < k0 + k)) k0 (rs.map (·.up)) L0) := by
      refine ap_agree (Agree.refl _ _) fun k' up hk' => ?_
      obtain ⟨r', hr', rfl⟩ := tu k' up hk'
      obtain ⟨m1, m2⟩ := hmed k' r' hr'
      rcases hlt_or k' with h | h | h
      · by_cases hc : cfl r' r = 0
        · right; intro p hp
          have hb := bitsOf_mem hp
          rw [← (g3 k' r' hr').wt] at hb
          exact ((cfl_zero hc p.1).2.2.1 hb).2
        · left; rw [m1 h hc]; simp; omega
      · subst h; left; rw [hDi]; simp
      · by_cases hc : cfl r r' = 0
        · right; intro p hp
          have hb := bitsOf_mem hp
          rw [← (g3 k' r' hr').wt] at hb
          exact (cfl_zero hc p.1).2.2.2 hb
        · left; rw [m2 h hc]; simp; omega
    have b1 : ap (upD D (k0 + k)) k0 (rs.map (·.ws)) tm0 = putsL (ap D k0 (rs.map (·.ws)) tm0) r.ws := by
      refine ap_insert (by simp [hr]) hDi fun k' ws hlt hk' hD' p hp q hq => ?_
      obtain ⟨r', hr', rfl⟩ := tw k' ws hk'
      have hc : cfl r r' = 0 := by
        by_cases hc : cfl r r' = 0
        · exact hc
        · have := (hmed k' r' hr').2 hlt hc; rw [hD'] at this; cases this
      intro he
      have h1 := bitsOf_mem hq
      have h2 := bitsOf_mem hp
      rw [← hat.db] at h1
      rw [← (g3 k' r' hr').db, he] at h2
      have := ((cfl_zero hc q.1).1 h1).1
      rw [h2] at this; cases this
    have b2 : ap (upD D (k0 + k)) k0 (rs.map (·.up)) L0 = putsL (ap D k0 (rs.map (·.up)) L0) r.up := by
      refine ap_insert (by simp [hr]) hDi fun k' up hlt hk' hD' p hp q hq => ?_
      obtain ⟨r', hr', rfl⟩ := tu k' up hk'
      have hc : cfl r r' = 0 := by
        by_cases hc : cfl r r' = 0
        · exact hc
        · have := (hmed k' r' hr').2 hlt hc; rw [hD'] at this; cases this
      intro he
      have h1 := bitsOf_mem hq
      have h2 := bitsOf_mem hp
      rw [← hat.wt] at h1
      rw [← (g3 k' r' hr').wt, he] at h2
      have := ((cfl_zero hc q.1).2.2.1 h1).1
      rw [h2] at this; cases this
    refine hat.ok rd ρ I a w _ _ a1 a2 s1 s2 (fun hlt => s5 k hklt hDi hlt) Q K ?_
    intro a' w' ρ' I' e1 e2 e3 e4 e5
    refine hK a' w' ⟨ρ', I', by rw [b2]; exact e2, by rw [b1]; exact e3, e1.trans s3, by rw [b2]; exact s4.trans e4, fun k' hk' hD' hlt => ?_⟩
    simp only [upD] at hD'
    split at hD'
    · cases hD'
    · rename_i hne
      have hne' : base + k' ≠ base + k := by omega
      rw [e5 _ hne']
      refine s5 k' hk' hD' ?_
      have h1 := e2.len
      have h2 := s1.len
      rw [putsL_len] at h1
      omega
  · rintro D a w hD ⟨ρ, I, s1, s2, s3, s4, _⟩ l hl
    have hall : ∀ {α : Type} (f : Rec → List (Nat × α)) (l : List α), ap D k0 (rs.map f) l = ap (fun _ => true) k0 (rs.map f) l := fun f l => ap_all fun k hk => hD _ (by omega) (by simp at hk; omega)
    rw [hall, ← g2] at s1 s4
    rw [hall, ← g1] at s2
    exact hnext ρ I a w s1 s2 s3 s4 l hl
  · have hnone : ∀ {α : Type} (f : Rec → List (Nat × α)) (l : List α), ap (fun _ => false) k0 (rs.map f) l = l := by
      intro α f l
      have : ∀ (wss : List (List (Nat × α))) (i : Nat) (l : List α), ap (fun _ => false) i wss l = l := by
        intro wss; induction wss with
        | nil => intro i l; rfl
        | cons a wss ih => intro i l; simp only [ap]; exact ih _ _
      exact this _ _ _
    refine ⟨ρ0, I0, by rw [hnone]; exact hM, by rw [hnone]; exact hT, rfl, by rw [hnone]; exact Stp.refl _ _ _ _, fun k _ _ hlt => hfree _ (by omega) hlt⟩

end Go.Vx
