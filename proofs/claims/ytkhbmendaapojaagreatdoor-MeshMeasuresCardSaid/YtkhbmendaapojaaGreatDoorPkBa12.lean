/- Loops: round by round, or by what holds at each round's head. A call in a part of the memory: the rest stays as it is. What a call leaves, put in order. A function that hands out a row of its own: for a call in a region that draws its order. -/
import Derived.Test.YtkhbmendaapojaaGreatDoorPkBa11
import Derived.LoopNIn
set_option linter.unusedSimpArgs false
set_option linter.unusedVariables false
/- Loops: round by round, or by what holds at each round's head. -/
namespace Go.Vx
open Go Go.RowKit

/-! ### Round by round -/
def loopK (E : Env) (rt : Option Nat) (n : Nat) (body : Code) (m : Nat) : List V → List Blk → List DV → KT → Prop :=
  Nat.rec (motive := fun _ => List V → List Blk → List DV → KT → Prop) (fun _ _ _ _ => False) (fun _ F tm L ds K => vc E rt n body tm L ds fun e tm L ds => match e with
    | .normal => F tm L ds K
    | e => K e tm L ds) m

theorem loop_unroll {E : Env} (hE : EnvOk E) {rt : Option Nat} {body : Code} (n m : Nat) {tm : List V} {L : List Blk} {ds : List DV} {K : KT} (h : loopK E rt n body m tm L ds K) : LoopV E.P rt body tm L ds K := by
  intro lo ρ I a w r hr hM hT hD
  refine wpIn_loop_rounds m ?_
  have key : ∀ (m : Nat) tm L ds, loopK E rt n body m tm L ds K → ∀ ρ1 I1 (a : Act) w1 (Q : Exit → Act → World → Prop), RndRel ρ1 rt r → Mod ρ1 I1 L w1 → Rels ρ1 I1 tm a.tmps.toList → DRel lo ρ1 I1 L w1 ds a.defers →
      (∀ e a' w', Post lo K ρ1 I1 L w1 e a' w' → Q e a' w') → Code.roundsIn (FR r) 0 E.P body Q m a w1 := by
    intro m
    induction m with
    | zero => intro tm L ds h; exact h.elim
    | succ m ih =>
      intro tm L ds h ρ1 I1 a w1 Q hr hM hT hD hQ
      rw [roundsIn_succ]
      refine wpIn_mono ((good hE n).2.2.1 rt body tm L ds _ h lo ρ1 I1 a w1 r hr hM hT hD) ?_
      rintro e a' w' ⟨ex, tm', L', ds', ρ', I', hK, hX, hM', hT', hD', hst⟩
      cases e with
      | normal =>
        have := hX.inv_normal; subst this
        exact ih tm' L' ds' hK ρ' I' a' w' Q (hr.mono hst.rho) hM' hT' hD' (fun e a2 w2 hp => hQ e a2 w2 (hp.step hst))
      | _ => cases ex <;> first
          | exact hX.elim
          | exact hQ _ _ _ ⟨_, tm', L', ds', ρ', I', hK, hX, hM', hT', hD', hst⟩
  exact key m tm L ds h ρ I a w _ hr hM hT hD (fun e a' w' hp => hp)

/-! ### Less is known: the tags from n0 on renamed, values forgotten -/
def renN (n0 : Nat) (xs : List Nat) (t : Nat) : Nat :=
  match Nat.ble n0 t with
  | false => t
  | true => match nth xs (t - n0) with
    | some s => s
    | none => 1000000
/-- v, its tags renamed. -/
def renStep (n0 : Nat) (xs : List Nat) (F : V → V) (v : V) : V :=
  match v with
  | .ptr t i s => .ptr (renN n0 xs t) i s
  | .sl t z o l c => .sl (renN n0 xs t) z o l c
  | .slf t z o l c => .slf (renN n0 xs t) z o l c
  | .map t => .map (renN n0 xs t)
  | .yld t => .yld (renN n0 xs t)
  | .sp t z o l => .sp (renN n0 xs t) z o l
  | .fn f l => .fn f (l.map F)
  | .iface t v => .iface t (F v)
  | .agg l => .agg (l.map F)
  | .tup l => .tup (l.map F)
  | v => v
noncomputable def renV (n0 : Nat) (xs : List Nat) (n : Nat) : V → V := Nat.rec (motive := fun _ => V → V) (fun v => v) (fun _ F => renStep n0 xs F) n
theorem renV_succ (n0 : Nat) (xs : List Nat) (n : Nat) : renV n0 xs (n + 1) = renStep n0 xs (renV n0 xs n) := rfl
theorem renV_zero (n0 : Nat) (xs : List Nat) (v : V) : renV n0 xs 0 v = v := rfl
/-- The value's depth is less than n. -/
def deepV : Nat → V → Bool
  | 0, _ => false
  | n + 1, v => match v with
    | .fn _ l => l.all (deepV n)
    | .iface _ v => deepV n v
    | .agg l => l.all (deepV n)
    | .tup l => l.all (deepV n)
    | _ => true

/-- ρ2 names by its tags what ρ names by the renamed ones. -/
def RenOk (n0 : Nat) (xs : List Nat) (ρ ρ2 : List (Option TE)) : Prop := ∀ (t : Nat) te, ρ[renN n0 xs t]? = some (some te) → ρ2[t]? = some (some te)

theorem ren_rel {ρ ρ2 : List (Option TE)} {I : Imm} {n0 : Nat} {xs : List Nat} (hget : RenOk n0 xs ρ ρ2) (n : Nat) :
    ∀ (v : V) (x : Value), deepV n v = true → Rel ρ I (renV n0 xs n v) x → Rel ρ2 I v x := by
  induction n with
  | zero => intro v x h; simp [deepV] at h
  | succ n ih =>
    have ihs : ∀ (l : List V) (ys : List Value), l.all (deepV n) = true → Rels ρ I (l.map (renV n0 xs n)) ys → Rels ρ2 I l ys := by
      intro l
      induction l with
      | nil => intro ys _ h; cases h; exact .nil
      | cons v l ihl =>
        intro ys h1 h2
        simp only [List.all_cons, Bool.and_eq_true] at h1
        cases h2 with | cons _ _ x ys h hs => exact .cons _ _ _ _ (ih v x h1.1 h) (ihl ys h1.2 hs)
    intro v x hd h
    cases v with
    | ptr t i s => simp only [renV_succ, renStep] at h; cases h with | ptr _ _ _ te hρ hi => exact .ptr _ _ _ te (hget t te hρ) hi
    | sl t z o l c => simp only [renV_succ, renStep] at h; cases h with
      | slNil => exact .slNil _ _ _
      | sl _ _ _ _ _ c' te o hρ hz hl hlc hcc hc ho => exact .sl _ _ _ _ _ c' te o (hget t te hρ) hz hl hlc hcc hc ho
    | slf t z o l c => simp only [renV_succ, renStep] at h; cases h with | slf _ _ _ _ _ te o hρ hn hlc hc ho => exact .slf _ _ _ _ _ te o (hget t te hρ) hn hlc hc ho
    | map t => simp only [renV_succ, renStep] at h; cases h with | map _ te hρ => exact .map _ te (hget t te hρ)
    | yld t => simp only [renV_succ, renStep] at h; cases h with | yld _ te hρ => exact .yld _ te (hget t te hρ)
    | sp t z o l => simp only [renV_succ, renStep] at h; cases h with | sp _ _ _ _ te hρ hz hl h0 => exact .sp _ _ _ _ te (hget t te hρ) hz hl h0
    | fn f l => simp only [renV_succ, renStep] at h; cases h with | fn _ _ ys h => exact .fn _ _ _ (ihs l _ hd h)
    | iface t v => simp only [renV_succ, renStep] at h; cases h with | iface _ _ x h => exact .iface _ _ _ (ih v x hd h)
    | agg l => simp only [renV_succ, renStep] at h; cases h with | agg _ ys h => exact .agg _ _ (ihs l _ hd h)
    | tup l => simp only [renV_succ, renStep] at h; cases h with | tup _ ys h => exact .tup _ _ (ihs l _ hd h)
    | bool => cases h; exact .bool _
    | int => cases h; exact .int _ _
    | str => cases h with | str s _ h => exact .str s _ h
    | nilPtr => cases h; exact .nilPtr
    | nilSl => cases h; exact .nilSl
    | nilMap => cases h; exact .nilMap
    | nilFunc => cases h; exact .nilFunc
    | nilIface => cases h; exact .nilIface
    | ro => cases h with
      | roNil => exact .roNil _ _
      | ro sz len f b off cap arr el fz hI hc hs hr => exact .ro _ _ _ b off cap arr el fz hI hc hs hr
    | ep => cases h with | ep sz len f i sub b off arr el fz hI hi hs hr => exact .ep _ _ _ _ _ b off arr el fz hI hi hs hr
    | any => exact .any _
    | glob => cases h; exact .glob _

/-- What v says holds of what u says: v is 'any', or they are one, the tags renamed. -/
def leV (n0 : Nat) (xs : List Nat) (u v : V) (K : Prop) : Prop :=
  match v with
  | .any => K
  | .bool b => match u with
    | .bool a => a = b ∧ K
    | _ => False
  | .int k n => match u with
    | .int k' m => ikEq k' k = true ∧ m = n ∧ K
    | _ => False
  | .str l => match u with
    | .str m => m = l ∧ K
    | _ => False
  | .sl t z o l c => match u with
    | .nilSl => (l = 0 ∧ c = 0) ∧ K
    | .sl t' z' o' l' c' => (t' = renN n0 xs t ∧ z' = z ∧ o' = o ∧ l' = l ∧ l ≤ c ∧ c ≤ c') ∧ K
    | _ => False
  | v => (deepV 6 v = true ∧ u = renV n0 xs 6 v) ∧ K
theorem nilSl_rel {ρ ρ2 I t z o x} (h : Rel ρ I .nilSl x) : Rel ρ2 I (.sl t z o 0 0) x := by cases h; exact .slNil _ _ _
theorem leV_rel {ρ ρ2 : List (Option TE)} {I : Imm} {n0 : Nat} {xs : List Nat} (hget : RenOk n0 xs ρ ρ2) {u v : V} {x : Value} {K : Prop} (h : leV n0 xs u v K) (hr : Rel ρ I u x) : Rel ρ2 I v x ∧ K := by
  have key : (deepV 6 v = true ∧ u = renV n0 xs 6 v) ∧ K → Rel ρ2 I v x ∧ K := fun h => ⟨ren_rel hget 6 v x h.1.1 (h.1.2 ▸ hr), h.2⟩
  cases v <;> simp only [leV] at h <;> first
    | exact ⟨.any _, h⟩
    | exact key h
    | skip
  rotate_left 3
  · rename_i t z o l c
    cases u <;> first | exact h.elim | skip
    · obtain ⟨⟨rfl, rfl⟩, hK⟩ := h; exact ⟨nilSl_rel hr, hK⟩
    · obtain ⟨⟨h1, h2, h3, h4, h6, h5⟩, hK⟩ := h
      subst h1; subst h2; subst h3; subst h4
      refine ⟨?_, hK⟩
      cases hr with
      | slNil => have : c = 0 := by omega
                 subst this; exact .slNil _ _ _
      | sl _ _ _ _ _ c' te o hρ hz hl hlc hcc hc ho => exact .sl _ _ _ _ _ c' te o (hget t te hρ) hz hl (by omega) (by omega) hc ho
  · cases u <;> first | exact h.elim | (obtain ⟨h1, h2⟩ := h; subst h1; cases hr; exact ⟨.bool _, h2⟩)
  · cases u <;> first | exact h.elim | (obtain ⟨h0, h1, h2⟩ := h; have := ikEq_eq h0; subst this; subst h1; cases hr; exact ⟨.int _ _, h2⟩)
  · cases u <;> first | exact h.elim | (obtain ⟨h1, h2⟩ := h; subst h1; cases hr with | str s _ h => exact ⟨.str s _ h, h2⟩)

def leL (n0 : Nat) (xs : List Nat) (K : Prop) : List V → List V → Prop
  | [], [] => K
  | u :: l, v :: m => leV n0 xs u v (leL n0 xs K l m)
  | _, _ => False
theorem leL_rel {ρ ρ2 : List (Option TE)} {I : Imm} {n0 : Nat} {xs : List Nat} (hget : RenOk n0 xs ρ ρ2) {K : Prop} : ∀ {l m : List V} {ys : List Value}, leL n0 xs K l m → Rels ρ I l ys → Rels ρ2 I m ys ∧ K
  | [], [], _, h, hr => by cases hr; exact ⟨.nil, h⟩
  | [], _ :: _, _, h, _ => h.elim
  | _ :: _, [], _, h, _ => h.elim
  | u :: l, v :: m, _, h, hr => by
    cases hr with | cons _ _ x ys hx hs =>
    obtain ⟨h1, h2⟩ := leV_rel hget h hx
    obtain ⟨h3, h4⟩ := leL_rel hget h2 hs
    exact ⟨.cons _ _ _ _ h1 h3, h4⟩

def leB (n0 : Nat) (xs : List Nat) (K : Prop) (u b : Blk) : Prop :=
  match b with
  | .dead => K
  | .fix e cs => match u with
    | .fix e' ds => e' = e ∧ leL n0 xs K ds cs
    | _ => False
  | .arr e sh gi gb gs => match u with
    | .arr e' sh' gi' gb' gs' => (e' = e ∧ sh' = sh ∧ gi' = gi ∧ gb' = gb ∧ gs' = gs) ∧ K
    | _ => False
  | .map ag ks vk m => match u with
    | .map ag' ks' vk' m' => (ag' = ag ∧ ks' = ks ∧ vk' = vk ∧ m' = m) ∧ K
    | _ => False
  | .miter mt seen n => match u with
    | .miter mt' seen' n' => (mt' = renN n0 xs mt ∧ seen' = seen ∧ n' = n) ∧ K
    | _ => False
  | .siter l pos => match u with
    | .siter l' pos' => (l' = l ∧ pos' = pos) ∧ K
    | _ => False
  | .loop st pend tm ps asg body => match u with
    | .loop st' pend' tm' ps' asg' body' => (st' = st ∧ pend' = pend ∧ ps' = ps ∧ asg' = asg ∧ body' = body) ∧ leL n0 xs K tm' tm
    | _ => False
/-- The blocks from tag i on. -/
def leBs (n0 : Nat) (xs : List Nat) (K : Prop) (L : List Blk) : Nat → List Blk → Prop
  | _, [] => K
  | i, b :: M => match b.live with
    | false => leBs n0 xs K L (i + 1) M
    | true => match nth L (renN n0 xs i) with
      | some u => leB n0 xs (leBs n0 xs K L (i + 1) M) u b
      | none => leBs n0 xs K L (i + 1) M
def imgs (n0 : Nat) (xs : List Nat) (L : List Blk) : Nat → List Blk → List Nat
  | _, [] => []
  | i, b :: M => match b.live with
    | false => imgs n0 xs L (i + 1) M
    | true => match nth L (renN n0 xs i) with
      | some _ => renN n0 xs i :: imgs n0 xs L (i + 1) M
      | none => imgs n0 xs L (i + 1) M
def nodupB : List Nat → Bool
  | [] => true
  | x :: l => match inNats l x with
    | true => false
    | false => nodupB l
/-- The state (tm, L) meets what (T, M) says. -/
def leS (n0 : Nat) (tm : List V) (L : List Blk) (T : List V) (M : List Blk) (xs : List Nat) : Prop :=
  leL n0 xs (leBs n0 xs (nodupB (imgs n0 xs L 0 M) = true ∧ len M = n0 + len xs) L 0 M) tm T

theorem inNats_false {l : List Nat} {n : Nat} (h : inNats l n = false) : n ∉ l := by
  induction l with
  | nil => simp
  | cons x l ih =>
    simp only [inNats] at h
    split at h
    · cases h
    · rename_i hx; intro hm
      rcases List.mem_cons.1 hm with rfl | hm
      · simp [natEq] at hx
      · exact ih h hm

theorem imgs_mem {n0 : Nat} {xs : List Nat} {L : List Blk} : ∀ {M : List Blk} {i j : Nat} {b u : Blk}, M[j]? = some b → b.live = true → L[renN n0 xs (i + j)]? = some u → renN n0 xs (i + j) ∈ imgs n0 xs L i M
  | [], _, _, _, _, h, _, _ => by simp at h
  | c :: M, i, 0, b, u, h, hl, hu => by simp at h; subst h; simp only [imgs, hl, nth_eq]; rw [Nat.add_zero] at hu ⊢; rw [hu]; simp
  | c :: M, i, j + 1, b, u, h, hl, hu => by
    rw [show i + (j + 1) = i + 1 + j by omega] at hu
    have := imgs_mem (i := i + 1) (n0 := n0) (xs := xs) (L := L) (by simpa using h) hl hu
    rw [show i + 1 + j = i + (j + 1) by omega] at this
    unfold imgs
    split
    · exact this
    · split
      · exact List.mem_cons_of_mem _ this
      · exact this
theorem imgs_inj {n0 : Nat} {xs : List Nat} {L : List Blk} : ∀ {M : List Blk} {i j k : Nat} {b c u : Blk}, nodupB (imgs n0 xs L i M) = true → M[j]? = some b → M[k]? = some c → b.live = true → c.live = true → L[renN n0 xs (i + j)]? = some u → renN n0 xs (i + j) = renN n0 xs (i + k) → j = k
  | [], _, _, _, _, _, _, _, h, _, _, _, _, _ => by simp at h
  | d :: M, i, j, k, b, c, u, hn, hj, hk, hb, hc, hu, he => by
    have tail : nodupB (imgs n0 xs L (i + 1) M) = true ∧ (d.live = true → ∀ u, L[renN n0 xs i]? = some u → renN n0 xs i ∉ imgs n0 xs L (i + 1) M) := by
      unfold imgs at hn
      split at hn
      · rename_i hd; exact ⟨hn, fun h => by rw [hd] at h; cases h⟩
      · split at hn
        · simp only [nodupB] at hn
          split at hn
          · cases hn
          · rename_i hx; exact ⟨hn, fun _ _ _ => inNats_false hx⟩
        · rename_i hx; rw [nth_eq] at hx; exact ⟨hn, fun _ u hu => by rw [hx] at hu; cases hu⟩
    cases j with
    | zero =>
      simp at hj; subst hj
      cases k with
      | zero => rfl
      | succ k =>
        exfalso
        have hu2 : L[renN n0 xs (i + 1 + k)]? = some u := by rw [show i + 1 + k = i + (k + 1) by omega, ← he]; exact hu
        have := imgs_mem (i := i + 1) (n0 := n0) (xs := xs) (by simpa using hk) hc hu2
        rw [show i + 1 + k = i + (k + 1) by omega, ← he] at this
        exact tail.2 hb u hu this
    | succ j =>
      cases k with
      | zero =>
        simp at hk; subst hk
        exfalso
        have hu2 : L[renN n0 xs (i + 1 + j)]? = some u := by rw [show i + 1 + j = i + (j + 1) by omega]; exact hu
        have := imgs_mem (i := i + 1) (n0 := n0) (xs := xs) (by simpa using hj) hb hu2
        rw [show i + 1 + j = i + (j + 1) by omega, he] at this
        refine tail.2 hc u ?_ this
        rw [he] at hu; exact hu
      | succ k =>
        have := imgs_inj (i := i + 1) (n0 := n0) (xs := xs) (u := u) tail.1 (by simpa using hj) (by simpa using hk) hb hc (by rw [show i + 1 + j = i + (j + 1) by omega]; exact hu) (by rw [show i + 1 + j = i + (j + 1) by omega, show i + 1 + k = i + (k + 1) by omega]; exact he)
        omega

def renTE (n0 : Nat) (xs : List Nat) (ρ : List (Option TE)) (k : Nat) : List (Option TE) := (List.range k).map fun t => (ρ[renN n0 xs t]?).getD none

theorem leB_rel {ρ ρ2 : List (Option TE)} {I : Imm} {n0 : Nat} {xs : List Nat} (hget : RenOk n0 xs ρ ρ2) {K : Prop} {u b : Blk} {te : TE} {o : Obj} (hb : b.live = true) (h : leB n0 xs K u b) (hr : BRel ρ I te u o) : BRel ρ2 I te b o ∧ u.live = true ∧ K := by
  cases b with
  | dead => cases hb
  | fix e cs =>
    cases u <;> simp only [leB] at h <;> try exact h.elim
    rename_i e' ds
    obtain ⟨rfl, h⟩ := h
    obtain ⟨⟨arr, el, h1, h2, h3, h4⟩, h5⟩ := hr
    have hn : 0 < te.n := by omega
    obtain ⟨g1, g2⟩ := h4 0 hn
    obtain ⟨e1, e2⟩ := leL_rel hget h g2
    refine ⟨⟨⟨arr, el, h1, h2, h3, fun i hi => ?_⟩, h5⟩, rfl, e2⟩
    have hi0 : i = 0 := by omega
    subst hi0
    have l1 := e1.length
    have l2 := g2.length
    exact ⟨by simp only [cellsOf] at *; omega, e1⟩
  | arr e sh gi gb gs =>
    cases u <;> simp only [leB] at h <;> try exact h.elim
    obtain ⟨⟨rfl, rfl, rfl, rfl, rfl⟩, hK⟩ := h
    refine ⟨⟨?_, hr.2⟩, rfl, hK⟩
    obtain ⟨arr, el, h1, h2, h3, h4⟩ := hr.1
    refine ⟨arr, el, h1, h2, h3, fun i hi => ⟨(h4 i hi).1, ?_⟩⟩
    have := (h4 i hi).2
    simp only [cellsOf] at this ⊢
    exact (shV_rel (J := I) this).mono (TEs.nil_le _) (Imm.le_refl _)
  | map ag ks vk m =>
    cases u <;> simp only [leB] at h <;> try exact h.elim
    obtain ⟨⟨rfl, rfl, rfl, rfl⟩, hK⟩ := h
    exact ⟨hr, rfl, hK⟩
  | miter mt seen n =>
    cases u <;> simp only [leB] at h <;> try exact h.elim
    obtain ⟨⟨rfl, rfl, rfl⟩, hK⟩ := h
    obtain ⟨h0, te', h1, h2⟩ := hr
    exact ⟨⟨h0, te', hget _ _ h1, h2⟩, rfl, hK⟩
  | siter l pos =>
    cases u <;> simp only [leB] at h <;> try exact h.elim
    obtain ⟨⟨rfl, rfl⟩, hK⟩ := h
    exact ⟨hr, rfl, hK⟩
  | loop st pend tm ps asg body =>
    cases u <;> simp only [leB] at h <;> try exact h.elim
    obtain ⟨⟨rfl, rfl, rfl, rfl, rfl⟩, hl⟩ := h
    obtain ⟨fnId, tmps, td, h1, h2⟩ := hr
    obtain ⟨e1, e2⟩ := leL_rel hget hl h2
    exact ⟨⟨fnId, tmps, td, h1, e1⟩, rfl, e2⟩

theorem leL_K {n0 : Nat} {xs : List Nat} {K : Prop} : ∀ {l m : List V}, leL n0 xs K l m → K
  | [], [], h => h
  | [], _ :: _, h => h.elim
  | _ :: _, [], h => h.elim
  | a :: l, v :: m, hm => by
    have : leL n0 xs K l m := by
      simp only [leL] at hm
      cases v <;> simp only [leV] at hm <;> first
        | exact hm
        | exact hm.2
        | (cases a <;> first | exact hm.elim | exact hm.2 | exact hm.2.2)
    exact leL_K this
theorem leB_K {n0 : Nat} {xs : List Nat} {K : Prop} {u c : Blk} (hh : leB n0 xs K u c) : K := by
  cases c with
  | dead => exact hh
  | fix e cs =>
    cases u <;> simp only [leB] at hh <;> try exact hh.elim
    exact leL_K hh.2
  | arr => cases u <;> simp only [leB] at hh <;> first | exact hh.elim | exact hh.2
  | map => cases u <;> simp only [leB] at hh <;> first | exact hh.elim | exact hh.2
  | miter => cases u <;> simp only [leB] at hh <;> first | exact hh.elim | exact hh.2
  | siter => cases u <;> simp only [leB] at hh <;> first | exact hh.elim | exact hh.2
  | loop => cases u <;> simp only [leB] at hh <;> first | exact hh.elim | exact leL_K hh.2
theorem leBs_tail {n0 : Nat} {xs : List Nat} {L : List Blk} {c : Blk} {M : List Blk} {K : Prop} {i : Nat} (h : leBs n0 xs K L i (c :: M)) : leBs n0 xs K L (i + 1) M := by
  unfold leBs at h
  split at h
  · exact h
  · split at h
    · exact leB_K h
    · exact h
theorem leBs_K {n0 : Nat} {xs : List Nat} {L : List Blk} : ∀ {M : List Blk} {K : Prop} {i : Nat}, leBs n0 xs K L i M → K
  | [], _, _, h => h
  | _ :: _, _, _, h => leBs_K (leBs_tail h)
theorem leBs_get {n0 : Nat} {xs : List Nat} {L : List Blk} : ∀ {M : List Blk} {K : Prop} {i : Nat}, leBs n0 xs K L i M → ∀ (j : Nat) b, M[j]? = some b → b.live = true → ∀ u, L[renN n0 xs (i + j)]? = some u → ∃ K', leB n0 xs K' u b
  | [], _, _, _, j, b, h, _, _, _ => by simp at h
  | c :: M, K, i, h, 0, b, hb, hl, u, hu => by
    simp at hb; subst hb
    unfold leBs at h
    rw [hl] at h
    simp only at h
    rw [Nat.add_zero] at hu
    rw [nth_eq, hu] at h
    exact ⟨_, h⟩
  | c :: M, K, i, h, j + 1, b, hb, hl, u, hu => by
    exact leBs_get (i := i + 1) (leBs_tail h) j b (by simpa using hb) hl u (by rw [show i + 1 + j = i + (j + 1) by omega]; exact hu)

theorem renN_lt {n0 : Nat} {xs : List Nat} {t : Nat} (h : t < n0) : renN n0 xs t = t := by
  unfold renN
  have : Nat.ble n0 t = false := by cases hb : Nat.ble n0 t; rfl; have := Nat.le_of_ble_eq_true hb; omega
  rw [this]

/-- A state that meets what is said of it: the world is one of what is said. -/
theorem leS_core {n0 : Nat} {ρ : List (Option TE)} {I : Imm} {L : List Blk} {w : World} {tm T : List V} {M : List Blk} {xs : List Nat} {tmps : Array Value}
    (hM : Mod ρ I L w) (hT : Rels ρ I tm tmps.toList) (h : leS n0 tm L T M xs) (hbig : L.length < 1000000) :
    Mod (renTE n0 xs ρ M.length) I M w ∧ Rels (renTE n0 xs ρ M.length) I T tmps.toList ∧ (∀ b, Own (renTE n0 xs ρ M.length) M b → Own ρ L b) ∧ RenOk n0 xs ρ (renTE n0 xs ρ M.length) ∧ n0 ≤ M.length ∧
      (∀ (t : Nat) b te, M[t]? = some b → b.live = true → (renTE n0 xs ρ M.length)[t]? = some (some te) → ∃ u, L[renN n0 xs t]? = some u ∧ u.live = true ∧ ρ[renN n0 xs t]? = some (some te)) := by
  obtain ⟨ρ2, hρ2⟩ : ∃ ρ2, ρ2 = renTE n0 xs ρ M.length := ⟨_, rfl⟩
  rw [← hρ2]
  have hK := leL_K h
  have hK2 := leBs_K hK
  obtain ⟨hnd, hlm⟩ := hK2
  rw [len_eq, len_eq] at hlm
  have hget : RenOk n0 xs ρ ρ2 := by
    intro t te ht
    have htM : t < M.length := by
      by_cases hlt : t < n0
      · omega
      · unfold renN at ht
        split at ht
        · rename_i hb; have := Nat.ble_eq.mpr (show n0 ≤ t by omega); rw [hb] at this; cases this
        · rw [nth_eq] at ht
          split at ht
          · rename_i s hs; have := (List.getElem?_eq_some_iff.1 hs).1; omega
          · have := (List.getElem?_eq_some_iff.1 ht).1; have := hM.len; omega
    rw [hρ2]
    simp [renTE, htM, ht]
  obtain ⟨hT2, _⟩ := leL_rel hget h hT
  have hlive : ∀ (t : Nat) b te, M[t]? = some b → b.live = true → ρ2[t]? = some (some te) → ∃ u K', L[renN n0 xs t]? = some u ∧ leB n0 xs K' u b ∧ ρ[renN n0 xs t]? = some (some te) := by
    intro t b te h1 h2 h3
    have htM := (List.getElem?_eq_some_iff.1 h1).1
    rw [hρ2] at h3
    simp [renTE, htM] at h3
    have h6 : ρ[renN n0 xs t]? = some (some te) := by
      cases hq : ρ[renN n0 xs t]? with
      | none => rw [hq] at h3; cases h3
      | some x => rw [hq] at h3; simp at h3; rw [h3]
    have hlt : renN n0 xs t < L.length := by rw [← hM.len]; exact (List.getElem?_eq_some_iff.1 h6).1
    obtain ⟨K', h5⟩ := leBs_get hK t b h1 h2 _ (by rw [Nat.zero_add]; exact List.getElem?_eq_getElem hlt)
    exact ⟨_, K', List.getElem?_eq_getElem hlt, h5, h6⟩
  have hul : ∀ {K' u b}, leB n0 xs K' u b → b.live = true → u.live = true := by
    intro K' u b hh hb
    cases b with
    | dead => cases hb
    | _ => cases u <;> simp only [leB] at hh <;> first | rfl | exact hh.elim
  have hown : ∀ b, Own ρ2 M b → Own ρ L b := by
    rintro b ⟨t, te, blk, h1, h2, h3, h4⟩
    obtain ⟨u, K', h5, h6, h7⟩ := hlive t blk te h1 h2 h3
    exact ⟨_, te, u, h5, hul h6 h2, h7, h4⟩
  have hρlen : ρ2.length = M.length := by rw [hρ2]; simp [renTE]
  refine ⟨⟨hρlen, ?_, ?_, hM.imm, fun b hb => hM.sep b (hown b hb), hM.glob⟩, hT2, hown, hget, by omega, fun t b te h1 h2 h3 => ?_⟩
  · intro t b te h1 h2 h3
    obtain ⟨u, K', h5, h6, h7⟩ := hlive t b te h1 h2 h3
    obtain ⟨o, h8, h9⟩ := hM.own _ u te h5 (hul h6 h2) h7
    exact ⟨o, h8, (leB_rel hget h2 h6 h9).1⟩
  · intro t t' b b' te te' h1 h1' h2 h2' h3 h3' he
    obtain ⟨u, K', h5, h6, h7⟩ := hlive t b te h1 h2 h3
    obtain ⟨u', K2, h5', h6', h7'⟩ := hlive t' b' te' h1' h2' h3'
    have := hM.inj _ _ u u' te te' h5 h5' (hul h6 h2) (hul h6' h2') h7 h7' he
    exact imgs_inj (i := 0) hnd h1 h1' h2 h2' (by rw [Nat.zero_add]; exact h5) (by simpa using this)
  · obtain ⟨u, K', h5, h6, h7⟩ := hlive t b te h1 h2 h3
    exact ⟨u, h5, hul h6 h2, h7⟩

theorem leS_ok {ρ0 : List (Option TE)} {I0 : Imm} {L0 : List Blk} {w0 : World} {ρ : List (Option TE)} {I : Imm} {L : List Blk} {w : World} {tm T : List V} {M : List Blk} {xs : List Nat} {tmps : Array Value}
    (hst : Stp ρ0 I0 L0 w0 ρ I L w) (hlen : ρ0.length ≤ ρ.length) (hM : Mod ρ I L w) (hT : Rels ρ I tm tmps.toList) (h : leS ρ0.length tm L T M xs) (hbig : L.length < 1000000) :
    ∃ ρ2, Mod ρ2 I M w ∧ Rels ρ2 I T tmps.toList ∧ Stp ρ0 I0 L0 w0 ρ2 I M w ∧ ∀ b, Own ρ2 M b → Own ρ L b := by
  obtain ⟨c1, c2, hown, hget, hlm, _⟩ := leS_core hM hT h hbig
  have hρlen : (renTE ρ0.length xs ρ M.length).length = M.length := by simp [renTE]
  refine ⟨_, c1, c2, ⟨?_, by rw [hρlen]; omega, hst.im, hst.imn, fun b hb => hst.own b (hown b hb), hst.os, hst.tape, hst.output, hst.size, hst.frame⟩, hown⟩
  intro t te ht
  have hlt := (List.getElem?_eq_some_iff.1 ht).1
  refine hget t te ?_
  rw [renN_lt hlt]
  exact hst.rho t te ht

def forceT (K : List V → Prop) : List V → Prop
  | [] => K []
  | v :: l => forceV (fun v => forceT (fun l => K (v :: l)) l) v
theorem forceT_eq {K : List V → Prop} {l : List V} : forceT K l ↔ K l := by
  induction l generalizing K with
  | nil => exact Iff.rfl
  | cons v l ih => simp [forceT, forceV_eq, ih]
def forceM (K : List Blk → Prop) : List Blk → Prop
  | [] => K []
  | .dead :: l => forceM (fun l => K (.dead :: l)) l
  | .fix e cs :: l => forceT (fun cs => forceM (fun l => K (.fix e cs :: l)) l) cs
  | .arr e a b c d :: l => forceM (fun l => K (.arr e a b c d :: l)) l
  | .map a b c d :: l => forceM (fun l => K (.map a b c d :: l)) l
  | .miter a b c :: l => forceM (fun l => K (.miter a b c :: l)) l
  | .siter a b :: l => forceM (fun l => K (.siter a b :: l)) l
  | .loop a b c d e f :: l => forceT (fun c => forceM (fun l => K (.loop a b c d e f :: l)) l) c
theorem forceM_eq {K : List Blk → Prop} {l : List Blk} : forceM K l ↔ K l := by
  induction l generalizing K with
  | nil => exact Iff.rfl
  | cons b l ih => cases b <;> simp [forceM, forceT_eq, ih]

theorem DRel.sub {lo ρ I L w ρ2 M ds l} (h : DRel lo ρ I L w ds l) (ho : ∀ b, Own ρ2 M b → Own ρ L b) : DRel lo ρ2 I M w ds l := by
  obtain ⟨h1, h0, bs, h2, h3, h4⟩ := h
  exact ⟨h1, h0, bs, h2, h3, fun b hb => ⟨(h4 b hb).1, (h4 b hb).2.1, fun hc => (h4 b hb).2.2.1 (ho b hc), (h4 b hb).2.2.2⟩⟩

/-- A LOOP BY WHAT HOLDS AT EACH ROUND'S HEAD: at the ghost s the temporaries are T s, the blocks M s (those of the start first, then the loop's own). -/
theorem loop_inv {E : Env} (hE : EnvOk E) {rt : Option Nat} {body : Code} {tm : List V} {L : List Blk} {ds : List DV} {K : KT} {σ : Type} (n : Nat) (Inv : σ → Prop) (μ : σ → Nat) (T : σ → List V) (M : σ → List Blk)
    (s0 : σ) (xs0 : List Nat) (h0 : Inv s0) (hs : leS (len L) tm L (T s0) (M s0) xs0) (hbig : Nat.ble (len L) 900000 = true)
    (round : ∀ s, Inv s → forceT (fun tm => forceM (fun M1 => vc E rt n body tm M1 ds fun e tm' L' ds' => match e with
      | .normal => ds' = ds ∧ ∃ s' xs, Inv s' ∧ μ s' < μ s ∧ Nat.ble (len L') 900000 = true ∧ leS (len L) tm' L' (T s') (M s') xs
      | e => K e tm' L' ds') (M s)) (T s)) : LoopV E.P rt body tm L ds K := by
  intro lo ρ0 I0 a0 w0 r hr hM hT hD
  have hn0 : len L = ρ0.length := by rw [len_eq, hM.len]
  rw [hn0] at hs hbig
  have hb := Nat.le_of_ble_eq_true hbig
  obtain ⟨ρ2, m1, m2, m3, m4⟩ := leS_ok (Stp.refl ρ0 I0 L w0) (Nat.le_refl _) hM hT hs (by rw [← hM.len]; omega)
  -- each round lowers the measure: it bounds the number of rounds
  have key : ∀ (m : Nat) (s : σ), μ s < m → Inv s → ∀ ρ I (a : Act) w (Q : Exit → Act → World → Prop), RndRel ρ rt r → Mod ρ I (M s) w → Rels ρ I (T s) a.tmps.toList → DRel lo ρ I (M s) w ds a.defers → Stp ρ0 I0 L w0 ρ I (M s) w →
      ρ0.length ≤ ρ.length → (∀ e a' w', Post lo K ρ0 I0 L w0 e a' w' → Q e a' w') → Code.roundsIn (FR r) 0 E.P body Q m a w := by
    intro m
    induction m with
    | zero => intro s hk; omega
    | succ m ih =>
      intro s hk hi ρ I a w Q hr1 hM1 hT1 hD1 hst hlen hQ
      have hround := round s hi
      rw [forceT_eq, forceM_eq] at hround
      rw [roundsIn_succ]
      refine wpIn_mono ((good hE n).2.2.1 rt body (T s) (M s) ds _ hround lo ρ I a w r hr1 hM1 hT1 hD1) ?_
      rintro e a' w' ⟨ex, tm', L', ds', ρ', I', hK, hX, hM', hT', hD', hst'⟩
      have hlen' : ρ.length ≤ ρ'.length := hst'.rlen
      cases e with
      | normal =>
        have := hX.inv_normal; subst this
        obtain ⟨hds, s', xs, h1, h2, h3, h4⟩ := hK
        subst hds
        have hb' := Nat.le_of_ble_eq_true h3
        rw [len_eq] at hb'
        rw [hn0] at h4
        obtain ⟨ρ3, q1, q2, q3, q4⟩ := leS_ok (hst.trans hst') (Nat.le_trans hlen hlen') hM' hT' h4 (by omega)
        have hlen3 : ρ0.length ≤ ρ3.length := q3.rlen
        exact ih s' (by omega) h1 ρ3 I' a' w' Q (hr.mono q3.rho) q1 q2 (hD'.sub q4) q3 hlen3 hQ
      | _ => cases ex <;> first
          | exact hX.elim
          | exact hQ _ _ _ ⟨_, tm', L', ds', ρ', I', hK, hX, hM', hT', hD', hst.trans hst'⟩
  have hlen2 : ρ0.length ≤ ρ2.length := m3.rlen
  exact wpIn_loop_rounds (μ s0 + 1) (key (μ s0 + 1) s0 (by omega) h0 ρ2 I0 a0 w0 _ (hr.mono m3.rho) m1 m2 (hD.sub m4) m3 hlen2 (fun e a' w' hp => hp))

end Go.Vx
/- A call in a part of the memory: the rest stays as it is. What a call leaves, put in order. -/
namespace Go.Vx
open Go Go.RowKit

theorem ren_rel' {ρ ρ2 : List (Option TE)} {I : Imm} {xs : List Nat} (hget : ∀ (t : Nat) te, ρ[t]? = some (some te) → ρ2[renN 0 xs t]? = some (some te)) (n : Nat) :
    ∀ (v : V) (x : Value), deepV n v = true → Rel ρ I v x → Rel ρ2 I (renV 0 xs n v) x := by
  induction n with
  | zero => intro v x h; simp [deepV] at h
  | succ n ih =>
    have ihs : ∀ (l : List V) (ys : List Value), l.all (deepV n) = true → Rels ρ I l ys → Rels ρ2 I (l.map (renV 0 xs n)) ys := by
      intro l
      induction l with
      | nil => intro ys _ h; cases h; exact .nil
      | cons v l ihl =>
        intro ys h1 h2
        simp only [List.all_cons, Bool.and_eq_true] at h1
        cases h2 with | cons _ _ x ys h hs => exact .cons _ _ _ _ (ih v x h1.1 h) (ihl ys h1.2 hs)
    intro v x hd h
    cases h with
    | ptr _ _ _ te hρ hi => exact .ptr _ _ _ te (hget _ te hρ) hi
    | slNil => exact .slNil _ _ _
    | sl _ _ _ _ _ c' te o hρ hz hl hlc hcc hc ho => exact .sl _ _ _ _ _ c' te o (hget _ te hρ) hz hl hlc hcc hc ho
    | slf _ _ _ _ _ te o hρ hn hlc hc ho => exact .slf _ _ _ _ _ te o (hget _ te hρ) hn hlc hc ho
    | map _ te hρ => exact .map _ te (hget _ te hρ)
    | yld _ te hρ => exact .yld _ te (hget _ te hρ)
    | sp _ _ _ _ te hρ hz hl h0 => exact .sp _ _ _ _ te (hget _ te hρ) hz hl h0
    | fn f l ys h => exact .fn _ _ _ (ihs l _ hd h)
    | iface t v x h => exact .iface _ _ _ (ih v x hd h)
    | agg l ys h => exact .agg _ _ (ihs l _ hd h)
    | tup l ys h => exact .tup _ _ (ihs l _ hd h)
    | bool => exact .bool _
    | int => exact .int _ _
    | str s l h => exact .str s l h
    | nilPtr => exact .nilPtr
    | nilSl => exact .nilSl
    | nilMap => exact .nilMap
    | nilFunc => exact .nilFunc
    | nilIface => exact .nilIface
    | roNil => exact .roNil _ _
    | ro sz len f b off cap arr el fz hI hc hs hr => exact .ro _ _ _ b off cap arr el fz hI hc hs hr
    | ep sz len f i sub b off arr el fz hI hi hs hr => exact .ep _ _ _ _ _ b off arr el fz hI hi hs hr
    | any => exact .any _
    | glob g => exact .glob _

noncomputable def renB (xs : List Nat) : Blk → Blk
  | .fix e cs => .fix e (cs.map (renV 0 xs 6))
  | .miter mt seen n => .miter (renN 0 xs mt) seen n
  | .loop st pend tm ps asg body => .loop st pend (tm.map (renV 0 xs 6)) ps asg body
  | b => b
def deepB : Blk → Bool
  | .fix _ cs => cs.all (deepV 6)
  | .loop _ _ tm _ _ _ => tm.all (deepV 6)
  | _ => true
theorem rens_rel {ρ ρ2 : List (Option TE)} {I : Imm} {xs : List Nat} (hget : ∀ (t : Nat) te, ρ[t]? = some (some te) → ρ2[renN 0 xs t]? = some (some te)) {n : Nat} : ∀ {l : List V} {ys : List Value}, l.all (deepV n) = true → Rels ρ I l ys → Rels ρ2 I (l.map (renV 0 xs n)) ys
  | [], _, _, h => by cases h; exact .nil
  | v :: l, _, h1, h2 => by
    simp only [List.all_cons, Bool.and_eq_true] at h1
    cases h2 with | cons _ _ x ys h hs => exact .cons _ _ _ _ (ren_rel' hget n v x h1.1 h) (rens_rel hget h1.2 hs)
theorem renB_rel {ρ ρ2 : List (Option TE)} {I : Imm} {xs : List Nat} (hget : ∀ (t : Nat) te, ρ[t]? = some (some te) → ρ2[renN 0 xs t]? = some (some te)) {b : Blk} (hd : deepB b = true) {te : TE} {o : Obj} (h : BRel ρ I te b o) : BRel ρ2 I te (renB xs b) o := by
  cases b with
  | dead => trivial
  | fix e cs =>
    obtain ⟨⟨arr, el, h1, h2, h3, h4⟩, h5, h6⟩ := h
    exact ⟨⟨arr, el, h1, h2, h3, fun i hi => ⟨by simpa [cellsOf, renB] using (h4 i hi).1, rens_rel hget hd (h4 i hi).2⟩⟩, h5, h6⟩
  | arr e sh gi gb gs =>
    obtain ⟨⟨arr, el, h1, h2, h3, h4⟩, h5⟩ := h
    exact ⟨⟨arr, el, h1, h2, h3, fun i hi => ⟨(h4 i hi).1, (shV_rel (J := I) (h4 i hi).2).mono (TEs.nil_le _) (Imm.le_refl _)⟩⟩, h5⟩
  | map ag ks vk m => exact h
  | miter mt seen n =>
    obtain ⟨h0, te', h1, h2⟩ := h
    exact ⟨h0, te', hget _ _ h1, h2⟩
  | siter l pos => exact h
  | loop st pend tm ps asg body =>
    obtain ⟨fnId, tmps, td, h1, h2⟩ := h
    exact ⟨fnId, tmps, td, h1, rens_rel hget hd h2⟩
theorem renB_live {xs : List Nat} (b : Blk) : (renB xs b).live = b.live := by cases b <;> rfl

/-- Where a tag stands in a list. -/
def idxN : List Nat → Nat → Nat → Option Nat
  | [], _, _ => none
  | x :: l, s, j => match Nat.beq x s with
    | true => some j
    | false => idxN l s (j + 1)
theorem idxN_some : ∀ {l : List Nat} {s j i : Nat}, idxN l s j = some i → j ≤ i ∧ l[i - j]? = some s
  | [], _, _, _, h => by simp [idxN] at h
  | x :: l, s, j, i, h => by
    simp only [idxN] at h
    split at h
    · rename_i hx; cases h; have := Nat.eq_of_beq_eq_true hx; subst this; simp
    · obtain ⟨h1, h2⟩ := idxN_some h
      refine ⟨by omega, ?_⟩
      rw [show i - j = (i - (j + 1)) + 1 by omega]; simpa using h2
theorem idxN_none : ∀ {l : List Nat} {s j : Nat}, idxN l s j = none → s ∉ l
  | [], _, _, _ => by simp
  | x :: l, s, j, h => by
    simp only [idxN] at h
    split at h
    · cases h
    · rename_i hx
      have : x ≠ s := fun he => by rw [he] at hx; simp at hx
      have h2 := idxN_none h
      simp [this.symm, h2]
/-- x, as the callee left it, back in its place. -/
def backAt {α : Type} (xs : List Nat) (L1 : List α) (d : α) : Nat → List α → List α
  | _, [] => []
  | s, b :: L => (match idxN xs s 0 with
    | some j => match nth L1 j with
      | some c => c
      | none => d
    | none => b) :: backAt xs L1 d (s + 1) L
theorem backAt_len {α : Type} {xs : List Nat} {L1 : List α} {d : α} : ∀ {L : List α} {s : Nat}, (backAt xs L1 d s L).length = L.length
  | [], _ => rfl
  | _ :: L, s => by simp [backAt, backAt_len (L := L)]
theorem backAt_get {α : Type} {xs : List Nat} {L1 : List α} {d : α} : ∀ {L : List α} {s i : Nat}, (backAt xs L1 d s L)[i]? = match L[i]? with
    | none => none
    | some b => some (match idxN xs (s + i) 0 with
      | some j => (L1[j]?).getD d
      | none => b)
  | [], s, i => by simp [backAt]
  | b :: L, s, 0 => by
    simp only [backAt, List.getElem?_cons_zero, Nat.add_zero, Option.some.injEq]
    split
    · rename_i j _; rw [nth_eq]; cases L1[j]? <;> rfl
    · rfl
  | b :: L, s, i + 1 => by
    simp only [backAt, List.getElem?_cons_succ]
    rw [backAt_get (L := L) (s := s + 1) (i := i), show s + 1 + i = s + (i + 1) by omega]
def upto : Nat → Nat → List Nat
  | _, 0 => []
  | a, n + 1 => a :: upto (a + 1) n
theorem upto_get : ∀ {n a i : Nat}, i < n → (upto a n)[i]? = some (a + i)
  | 0, _, _, h => by omega
  | n + 1, a, 0, _ => rfl
  | n + 1, a, i + 1, h => by simp only [upto, List.getElem?_cons_succ]; rw [upto_get (by omega)]; congr 1; omega
theorem upto_len : ∀ {n a : Nat}, (upto a n).length = n
  | 0, _ => rfl
  | n + 1, a => by simp [upto, upto_len (n := n)]

def nodupN : List Nat → Bool
  | [] => true
  | x :: l => match idxN l x 0 with
    | some _ => false
    | none => nodupN l
theorem nodupN_ok : ∀ {l : List Nat}, nodupN l = true → l.Nodup
  | [], _ => .nil
  | x :: l, h => by
    simp only [nodupN] at h
    split at h
    · cases h
    · rename_i hx; exact List.nodup_cons.2 ⟨idxN_none hx, nodupN_ok h⟩
def allLt : List Nat → Nat → Bool
  | [], _ => true
  | x :: l, n => match Nat.blt x n with
    | true => allLt l n
    | false => false
theorem allLt_ok : ∀ {l : List Nat} {n : Nat}, allLt l n = true → ∀ x ∈ l, x < n
  | [], _, _, x, hx => by simp at hx
  | y :: l, n, h, x, hx => by
    simp only [allLt] at h
    split at h
    · rename_i hy
      rcases List.mem_cons.1 hx with rfl | hx
      · exact Nat.le_of_ble_eq_true hy
      · exact allLt_ok h x hx
    · cases h

def deepO : Out → Bool
  | .ret v => deepV 6 v
  | .pan v => deepV 6 v
noncomputable def renO (xs : List Nat) : Out → Out
  | .ret v => .ret (renV 0 xs 6 v)
  | .pan v => .pan (renV 0 xs 6 v)
/-- Where the callee's tags stand afterwards. -/
def homeN (xs : List Nat) (n m : Nat) : List Nat := app xs (upto n (m - len xs))
where app : List Nat → List Nat → List Nat
  | [], m => m
  | x :: l, m => x :: app l m
theorem homeN_app : ∀ (l m : List Nat), homeN.app l m = l ++ m
  | [], m => rfl
  | x :: l, m => by simp [homeN.app, homeN_app l m]
noncomputable def mapB (xs : List Nat) : List Blk → List Blk
  | [] => []
  | b :: l => renB xs b :: mapB xs l
theorem mapB_eq (xs : List Nat) : ∀ l, mapB xs l = l.map (renB xs)
  | [] => rfl
  | b :: l => by simp [mapB, mapB_eq xs l]
def appB : List Blk → List Blk → List Blk
  | [], m => m
  | x :: l, m => x :: appB l m
theorem appB_eq : ∀ (l m : List Blk), appB l m = l ++ m
  | [], m => rfl
  | x :: l, m => by simp [appB, appB_eq l m]
/-- The whole memory, behind a call that saw a part of it. -/
noncomputable def backL (xs : List Nat) (L L1 : List Blk) : List Blk :=
  appB (backAt xs (mapB (homeN xs (len L) (len L1)) L1) .dead 0 L) (drop' (len xs) (mapB (homeN xs (len L) (len L1)) L1))

theorem homeN_get {xs : List Nat} {n m : Nat} (hm : xs.length ≤ m) {t : Nat} (ht : t < m) : (homeN xs n m)[t]? = some (match xs[t]? with | some s => s | none => n + (t - xs.length)) := by
  unfold homeN
  rw [homeN_app, len_eq]
  by_cases h : t < xs.length
  · rw [List.getElem?_append_left h, List.getElem?_eq_getElem h]
  · rw [List.getElem?_append_right (by omega), upto_get (by omega), List.getElem?_eq_none (by omega)]

/-- A CALL IN A PART OF THE MEMORY. -/
theorem callS_frame {P : Program} {f : Nat} {Vs1 : List V} {L1 : List Blk} {K1 : Out → List Blk → Prop} (h : CallS P f Vs1 L1 K1) {Vs : List V} {L : List Blk} {K : Out → List Blk → Prop} (xs : List Nat)
    (hs : leS 0 Vs L Vs1 L1 xs) (hx : natEq (len xs) (len L1) = true) (hn : nodupN xs = true) (hlt : allLt xs (len L) = true) (hbig : Nat.ble (len L) 900000 = true)
    (hk : ∀ o M, K1 o M → Nat.ble (len L1) (len M) = true ∧ Nat.ble (len M) 900000 = true ∧ deepO o = true ∧ M.all deepB = true ∧ K (renO (homeN xs (len L) (len M)) o) (backL xs L M)) : CallV P f Vs L K := by
  intro ρ I w ys hM hV
  have hb := Nat.le_of_ble_eq_true hbig
  rw [len_eq] at hb hlt
  have hx := natEq_eq hx
  rw [len_eq, len_eq] at hx
  have hnod := nodupN_ok hn
  have hall := allLt_ok hlt
  obtain ⟨ρ1, hρ1⟩ : ∃ ρ1, ρ1 = renTE 0 xs ρ L1.length := ⟨_, rfl⟩
  obtain ⟨c1, c2, hown, hget, _, hlive⟩ := leS_core hM hV hs (by omega)
  rw [← hρ1] at c1 c2 hown hget hlive
  have hlenρ := hM.len
  refine (h ρ1 I w ys c1 c2).mono ?_
  rintro e w' ⟨o, ρ1', I', L1', hK, hO, hM', hst⟩
  obtain ⟨k1, k2, k3, k4, hKK⟩ := hk o L1' hK
  have hk1 := Nat.le_of_ble_eq_true k1
  have hk2 := Nat.le_of_ble_eq_true k2
  rw [len_eq] at hk1 hk2
  rw [len_eq] at hk1
  have hlen1' := hM'.len
  -- where the tags stand
  obtain ⟨home, hhome⟩ : ∃ home, home = homeN xs (len L) (len L1') := ⟨_, rfl⟩
  have hren : ∀ t, t < L1'.length → renN 0 home t = match xs[t]? with | some s => s | none => L.length + (t - xs.length) := by
    intro t ht
    have hg := homeN_get (xs := xs) (n := L.length) (m := L1'.length) (by omega) ht
    rw [hhome]
    unfold renN
    rw [len_eq, len_eq]
    simp only [show Nat.ble 0 t = true from Nat.ble_eq.mpr (Nat.zero_le _), Nat.sub_zero, nth_eq, hg]
  obtain ⟨L', hL'⟩ : ∃ L', L' = backL xs L L1' := ⟨_, rfl⟩
  have hLe : L' = backAt xs (L1'.map (renB home)) .dead 0 L ++ (L1'.map (renB home)).drop xs.length := by
    rw [hL', backL, appB_eq, mapB_eq, drop'_eq, ← hhome, len_eq]
  have hL'len : L'.length = L.length + (L1'.length - xs.length) := by rw [hLe]; simp [backAt_len]
  obtain ⟨ρ', hρ'⟩ : ∃ ρ', ρ' = backAt xs ρ1' none 0 ρ ++ ρ1'.drop xs.length := ⟨_, rfl⟩
  have hρ'len : ρ'.length = L'.length := by rw [hρ', hL'len]; simp [backAt_len]; omega
  -- a place behind the call: from the callee, or as it was
  have place : ∀ s, s < L'.length → (∃ t, t < L1'.length ∧ s = renN 0 home t ∧ L'[s]? = (L1'[t]?).map (renB home) ∧ ρ'[s]? = ρ1'[t]?) ∨ (s < L.length ∧ s ∉ xs ∧ L'[s]? = L[s]? ∧ ρ'[s]? = ρ[s]?) := by
    intro s hs
    by_cases hsl : s < L.length
    · have g1 : L'[s]? = (backAt xs (L1'.map (renB home)) .dead 0 L)[s]? := by rw [hLe, List.getElem?_append_left (by rw [backAt_len]; exact hsl)]
      have g2 : ρ'[s]? = (backAt xs ρ1' none 0 ρ)[s]? := by rw [hρ', List.getElem?_append_left (by rw [backAt_len]; omega)]
      rw [backAt_get, Nat.zero_add] at g1 g2
      rw [List.getElem?_eq_getElem hsl] at g1
      rw [List.getElem?_eq_getElem (show s < ρ.length by omega)] at g2
      simp only at g1 g2
      cases hi : idxN xs s 0 with
      | some t =>
        obtain ⟨_, h2⟩ := idxN_some hi
        rw [Nat.sub_zero] at h2
        have ht : t < xs.length := (List.getElem?_eq_some_iff.1 h2).1
        have htl : t < L1'.length := by omega
        left
        rw [hi] at g1 g2
        simp only at g1 g2
        refine ⟨t, htl, by rw [hren t htl, h2], ?_, ?_⟩
        · rw [g1, List.getElem?_map, List.getElem?_eq_getElem htl]; rfl
        · rw [g2, List.getElem?_eq_getElem (show t < ρ1'.length by omega)]; rfl
      | none =>
        right
        rw [hi] at g1 g2
        exact ⟨hsl, idxN_none hi, by rw [g1, List.getElem?_eq_getElem hsl], by rw [g2, List.getElem?_eq_getElem]⟩
    · left
      refine ⟨xs.length + (s - L.length), by omega, ?_, ?_, ?_⟩
      · rw [hren _ (by omega), List.getElem?_eq_none (by omega)]; simp only; omega
      · rw [hLe, List.getElem?_append_right (by rw [backAt_len]; omega), backAt_len, List.getElem?_drop, List.getElem?_map]
      · rw [hρ', List.getElem?_append_right (by rw [backAt_len]; omega), backAt_len, List.getElem?_drop, hlenρ]
  have hinj : ∀ t t', t < L1'.length → t' < L1'.length → renN 0 home t = renN 0 home t' → t = t' := by
    intro t t' h1 h2 he
    rw [hren t h1, hren t' h2] at he
    cases g1 : xs[t]? with
    | some a =>
      cases g2 : xs[t']? with
      | some b =>
        rw [g1, g2] at he
        simp only at he
        subst he
        exact (List.getElem?_inj (List.getElem?_eq_some_iff.1 g1).1 hnod).1 (g1.trans g2.symm)
      | none =>
        rw [g1, g2] at he
        simp only at he
        have := hall a (List.mem_of_getElem? g1); omega
    | none =>
      have q1 := List.getElem?_eq_none_iff.1 g1
      cases g2 : xs[t']? with
      | some b =>
        rw [g1, g2] at he
        simp only at he
        have := hall b (List.mem_of_getElem? g2); omega
      | none =>
        have q2 := List.getElem?_eq_none_iff.1 g2
        rw [g1, g2] at he
        simp only at he; omega
  -- where a tag of the callee's leads
  have hto : ∀ (t : Nat) te, ρ1'[t]? = some (some te) → ρ'[renN 0 home t]? = some (some te) := by
    intro t te ht
    have htl : t < L1'.length := by have := (List.getElem?_eq_some_iff.1 ht).1; omega
    have hs : renN 0 home t < L'.length := by
      rw [hren t htl]
      cases g : xs[t]? with
      | some a => have := hall a (List.mem_of_getElem? g); simp only; omega
      | none => have := List.getElem?_eq_none_iff.1 g; simp only; omega
    rcases place _ hs with ⟨t', h1, h2, h3, h4⟩ | ⟨h1, h2, h3, h4⟩
    · have := hinj t t' htl h1 h2; subst this
      rw [h4]; exact ht
    · exfalso
      rw [hren t htl] at h1 h2
      cases g : xs[t]? with
      | some a => rw [g] at h2; exact h2 (List.mem_of_getElem? g)
      | none => rw [g] at h1; simp only at h1; have := List.getElem?_eq_none_iff.1 g; omega
  have hle : TEs.le ρ ρ' := by
    intro s te hs
    have hsl : s < L.length := by have := (List.getElem?_eq_some_iff.1 hs).1; omega
    rcases place s (by omega) with ⟨t, h1, h2, h3, h4⟩ | ⟨h1, h2, h3, h4⟩
    · have hxt : xs[t]? = some s := by
        rw [hren t h1] at h2
        cases g : xs[t]? with
        | some a => rw [g] at h2; simp only at h2; rw [h2]
        | none => rw [g] at h2; simp only at h2; have := List.getElem?_eq_none_iff.1 g; omega
      have htx : t < xs.length := (List.getElem?_eq_some_iff.1 hxt).1
      have hρ1t : ρ1[t]? = some (some te) := by
        rw [hρ1]
        have : renN 0 xs t = s := by
          unfold renN
          simp only [show Nat.ble 0 t = true from Nat.ble_eq.mpr (Nat.zero_le _), Nat.sub_zero, nth_eq, hxt]
        simp [renTE, show t < L1.length by omega, this, hs]
      rw [h4]; exact hst.rho t te hρ1t
    · rw [h4]; exact hs
  -- what the callee owns
  have other : ∀ (s : Nat) b te, s < L.length → s ∉ xs → L[s]? = some b → b.live = true → ρ[s]? = some (some te) → ¬ Own ρ1 L1 te.b := by
    rintro s b te h1 h2 h3 h4 h5 ⟨t, te1, b1, q1, q2, q3, q4⟩
    obtain ⟨u, q5, q6, q7⟩ := hlive t b1 te1 q1 q2 q3
    have := hM.inj _ s u b te1 te q5 h3 q6 h4 q7 h5 q4
    have htl : t < xs.length := by have := (List.getElem?_eq_some_iff.1 q1).1; omega
    refine h2 ?_
    rw [← this]
    unfold renN
    simp only [show Nat.ble 0 t = true from Nat.ble_eq.mpr (Nat.zero_le _), Nat.sub_zero, nth_eq, List.getElem?_eq_getElem htl]
    exact List.getElem_mem _
  have hlive' : ∀ (s : Nat) b te, L'[s]? = some b → b.live = true → ρ'[s]? = some (some te) →
      (∃ t c, t < L1'.length ∧ s = renN 0 home t ∧ L1'[t]? = some c ∧ b = renB home c ∧ c.live = true ∧ ρ1'[t]? = some (some te)) ∨ (s < L.length ∧ s ∉ xs ∧ L[s]? = some b ∧ ρ[s]? = some (some te)) := by
    intro s b te h1 h2 h3
    rcases place s (List.getElem?_eq_some_iff.1 h1).1 with ⟨t, q1, q2, q3, q4⟩ | ⟨q1, q2, q3, q4⟩
    · rw [h1] at q3; rw [h3] at q4
      cases hc : L1'[t]? with
      | none => rw [hc] at q3; cases q3
      | some c =>
        rw [hc] at q3
        simp only [Option.map_some, Option.some.injEq] at q3
        exact .inl ⟨t, c, q1, q2, hc, q3, by rw [q3, renB_live] at h2; exact h2, q4.symm⟩
    · exact .inr ⟨q1, q2, by rw [← q3]; exact h1, by rw [← q4]; exact h3⟩
  have hkeep : ∀ (s : Nat) b te, s < L.length → s ∉ xs → L[s]? = some b → b.live = true → ρ[s]? = some (some te) → w'.heap[te.b]? = w.heap[te.b]? ∧ te.b < w.heap.size := by
    intro s b te h1 h2 h3 h4 h5
    have hlt' := hM.blk_lt h3 h4 h5
    exact ⟨hst.frame _ hlt' (other s b te h1 h2 h3 h4 h5), hlt'⟩
  have hnew : ∀ b, Own ρ' L' b → Own ρ1' L1' b ∨ Own ρ L b := by
    rintro b ⟨s, te, bl, h1, h2, h3, h4⟩
    rcases hlive' s bl te h1 h2 h3 with ⟨t, c, q1, q2, q3, q4, q5, q6⟩ | ⟨q1, q2, q3, q4⟩
    · exact .inl ⟨t, te, c, q3, q5, q6, h4⟩
    · exact .inr ⟨s, te, bl, q3, h2, q4, h4⟩
  have hMod : Mod ρ' I' L' w' := by
    refine ⟨hρ'len, ?_, ?_, hM'.imm, ?_, hM'.glob⟩
    · intro s b te h1 h2 h3
      rcases hlive' s b te h1 h2 h3 with ⟨t, c, q1, q2, q3, q4, q5, q6⟩ | ⟨q1, q2, q3, q4⟩
      · obtain ⟨ob, g1, g2⟩ := hM'.own t c te q3 q5 q6
        refine ⟨ob, g1, ?_⟩
        rw [q4]
        exact renB_rel hto (by have := List.all_eq_true.1 k4 c (List.mem_of_getElem? q3); exact this) g2
      · obtain ⟨ob, g1, g2⟩ := hM.own s b te q3 h2 q4
        exact ⟨ob, (hkeep s b te q1 q2 q3 h2 q4).1.trans g1, g2.mono hle hst.im⟩
    · intro s s' b b' te te' h1 h1' h2 h2' h3 h3' he
      rcases hlive' s b te h1 h2 h3 with ⟨t, c, q1, q2, q3, q4, q5, q6⟩ | ⟨q1, q2, q3, q4⟩ <;> rcases hlive' s' b' te' h1' h2' h3' with ⟨t', c', q1', q2', q3', q4', q5', q6'⟩ | ⟨q1', q2', q3', q4'⟩
      · have := hM'.inj t t' c c' te te' q3 q3' q5 q5' q6 q6' he
        rw [q2, q2', this]
      · exfalso
        have hlt' := (hkeep s' b' te' q1' q2' q3' h2' q4').2
        rcases hst.own te.b ⟨t, te, c, q3, q5, q6, rfl⟩ with g | g
        · exact other s' b' te' q1' q2' q3' h2' q4' (he ▸ g)
        · omega
      · exfalso
        have hlt' := (hkeep s b te q1 q2 q3 h2 q4).2
        rcases hst.own te'.b ⟨t', te', c', q3', q5', q6', rfl⟩ with g | g
        · exact other s b te q1 q2 q3 h2 q4 (he ▸ g)
        · omega
      · exact hM.inj s s' b b' te te' q3 q3' h2 h2' q4 q4' he
    · intro b hb
      rcases hnew b hb with g | g
      · exact hM'.sep b g
      · cases hc : I' b with
        | none => rfl
        | some ob =>
          exfalso
          rcases hb with ⟨s, te, bl, h1, h2, h3, rfl⟩
          rcases hlive' s bl te h1 h2 h3 with ⟨t, c, q1, q2, q3, q4, q5, q6⟩ | ⟨q1, q2, q3, q4⟩
          · have := hM'.sep te.b ⟨t, te, c, q3, q5, q6, rfl⟩; rw [hc] at this; cases this
          · rcases hst.imn te.b ob hc with r | r | r
            · have := hM.sep te.b ⟨s, te, bl, q3, h2, q4, rfl⟩; rw [this] at r; cases r
            · exact other s bl te q1 q2 q3 h2 q4 r
            · have := (hkeep s bl te q1 q2 q3 h2 q4).2; omega
  have hStp : Stp ρ I L w ρ' I' L' w' := by
    refine ⟨hle, by rw [hρ'len, hL'len]; omega, hst.im, ?_, ?_, hst.os, hst.tape, hst.output, hst.size, ?_⟩
    · intro b ob hb
      rcases hst.imn b ob hb with r | r | r
      · exact .inl r
      · exact .inr (.inl (hown b r))
      · exact .inr (.inr r)
    · intro b hb
      rcases hnew b hb with g | g
      · rcases hst.own b g with r | r
        · exact .inl (hown b r)
        · exact .inr r
      · exact .inl g
    · exact fun b hb hno => hst.frame b hb fun hc => hno (hown b hc)
  rw [← hhome, ← hL'] at hKK
  refine ⟨_, ρ', I', L', hKK, ?_, hMod, hStp⟩
  cases o with
  | ret v => cases e <;> first | exact ren_rel' hto 6 v _ k3 hO | exact hO.elim
  | pan v =>
    cases e with
    | panicked ch =>
      cases ch with
      | nil => exact hO.elim
      | cons c ch => cases ch with
        | nil => exact ⟨hO.1, hO.2.1, ren_rel' hto 6 v _ k3 hO.2.2⟩
        | cons => exact hO.elim
    | returned => exact hO.elim
    | outgrown => exact hO.elim

/-- What a call leaves, put in order: at a ghost s the result is v s, the memory M s (the blocks of the start first). -/
theorem callS_tidy {P : Program} {f : Nat} {Vs : List V} {L : List Blk} {K : Out → List Blk → Prop} (hbig : Nat.ble (len L) 900000 = true)
    (h : CallS P f Vs L (fun o L' => ∃ (v v' : V) (M : List Blk) (xs : List Nat), o = .ret v ∧ Nat.ble (len L') 900000 = true ∧ leS (len L) [v] L' [v'] M xs ∧ K (.ret v') M)) : CallS P f Vs L K := by
  intro ρ I w ys hM hV
  have hb := Nat.le_of_ble_eq_true hbig
  refine (h ρ I w ys hM hV).mono ?_
  rintro e w' ⟨o, ρ', I', L', ⟨v, v', M, xs, rfl, hbig', hle, hK⟩, hO, hM', hst⟩
  have hb' := Nat.le_of_ble_eq_true hbig'
  rw [len_eq] at hb hb'
  rw [len_eq, ← hM.len] at hle
  cases e with
  | returned x =>
    have hO : Rel ρ' I' v x := hO
    obtain ⟨ρ2, m1, m2, m3, m4⟩ := leS_ok (tmps := #[x]) hst hst.rlen hM' (.cons _ _ _ _ hO .nil) hle (by omega)
    cases m2 with | cons _ _ _ _ hv _ =>
    exact ⟨.ret v', ρ2, I', M, hK, hv, m1, m3⟩
  | panicked => exact hO.elim
  | outgrown => exact hO.elim

end Go.Vx
/- A function that hands out a row of its own: for a call in a region that draws its order. -/
namespace Go.Vx
open Go Go.RowKit
theorem shV_any {ρ ρ' : List (Option TE)} {I I' : Imm} {gi : Nat → Int} {gb : Nat → Bool} {gs : Nat → List UInt8} : ∀ {sh : List Sh} {c : Nat} {xs : List Value}, Rels ρ I (shV sh gi gb gs c) xs → Rels ρ' I' (shV sh gi gb gs c) xs
  | [], _, _, h => by cases h; exact .nil
  | k :: sh, c, _, h => by
    cases k <;> (cases h with | cons _ _ x xs h1 h2 => cases h1; exact .cons _ _ _ _ (by constructor <;> assumption) (shV_any h2))
theorem callF_of_S {P : Program} {g : Nat} {args : List V} {e n sz : Nat} {sh : List Sh} {gi : Nat → Nat → Int} {gb : Nat → Nat → Bool} {gs : Nat → Nat → List UInt8} (h0 : 0 < n)
    (hflat : ∀ ρ I xs, Rels ρ I args xs → Rels [] I args xs)
    (h : CallS P g args [] (fun o L' => ∃ t, o = .ret (.sl t sz 0 n n) ∧ nth L' t = some (.arr e sh gi gb gs))) : CallFV P g args (.arr e sh gi gb gs) n sz (fun t => .sl t sz 0 n n) := by
  intro ρ I L w xs hM hxs
  have hM0 : Mod [] I [] w := ⟨rfl, fun t b e h => by simp at h, fun t t' b b' e e' h => by simp at h, hM.imm, fun b ⟨t, e, bl, h, _⟩ => by simp at h, hM.glob⟩
  refine (h [] I w xs hM0 (hflat _ _ _ hxs)).mono ?_
  rintro en w' ⟨o, ρ', I', L', ⟨t, rfl, hL⟩, hO, hM', hst⟩
  cases en with
  | returned x =>
    rw [nth_eq] at hL
    have hx : Rel ρ' I' (.sl t sz 0 n n) x := hO
    refine ⟨x, rfl, .inl ?_⟩
    cases hx with
    | slNil => exact absurd h0 (Nat.lt_irrefl _)
    | sl _ _ _ _ _ c te o hρ hz hl hlc hcc hc ho =>
      obtain ⟨ob, hob, ⟨arr, el, rfl, hn1, hn2, hcells⟩, arr2, he⟩ := hM'.own t _ te hL rfl hρ
      cases he
      refine ⟨⟨te.b, te.o, te.sz, n, te.m⟩, _, rfl, hz, hob, ?_, .inl ?_, ?_, hst.size, hst.os, hst.tape, hst.output⟩
      · intro ρ2 t' _ ht'
        refine ⟨⟨⟨arr, e, rfl, by show n ≤ te.m; omega, hn2, fun i hi => ?_⟩, arr, rfl⟩, .sl t' sz 0 n n c ⟨te.b, te.o, te.sz, n, te.m⟩ o ht' hz (by simp) (Nat.le_refl _) hcc hc ho⟩
        have hi' : i < te.n := by have : i < n := hi; omega
        exact ⟨(hcells i hi').1, shV_any (hcells i hi').2⟩
      · rcases hst.own te.b ⟨t, te, _, hL, rfl, hρ, rfl⟩ with ⟨s, e', bl, h1, _⟩ | h1
        · simp at h1
        · exact h1
      · intro k hk _
        exact hst.frame k hk fun ⟨s, e', bl, h1, _⟩ => by simp at h1
  | _ => exact hO.elim
end Go.Vx
