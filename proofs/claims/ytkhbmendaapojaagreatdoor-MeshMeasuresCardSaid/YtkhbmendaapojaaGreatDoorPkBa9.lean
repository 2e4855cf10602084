/- What the reckoned conditions are good for: the model's runs end as they say. -/
import Derived.Test.YtkhbmendaapojaaGreatDoorPkBa8
set_option linter.unusedSimpArgs false
set_option linter.unusedVariables false
/- What the reckoned conditions are good for: the model's runs end as they say. -/
namespace Go.Vx
open Go Go.RowKit

structure EnvOk (E : Env) : Prop where
  T : TOk E.P E.T
  ok : ∀ g, E.ok g = true → ∀ (args : Array Value) w, (callFunc g args).run E.P w = .ok (.enter g args) w
  inl : ∀ g fn, E.inl g = some fn → E.P.funcs[g]? = some fn
  fr : ∀ g, E.fr g = true → E.ok g = true
  ext : ∀ g h, E.ext g = some h → ∀ ρ I L w Vs (xs : Array Value), Mod ρ I L w → Rels ρ I Vs xs.toList → (h Vs).Ok E.P ρ I L w (callFunc g xs)
  mixed : E.P.follows .mixedOrders = true

/-! ### A scope that is gone through without a jump -/
def straightX (Q : Exit → Act → World → Prop) : Exit → Act → World → Prop
  | .goto _, _, _ => False
  | e, a, w => Q e a w
section scopes
variable {F : Fence} {n : Nat} {P : Program} {b : Frame} {a : Act} {k : List Item} {cs : List Frame} {w : World} {Q : Exit → Act → World → Prop}
theorem stepR_scope {c : Code} : step P (lone (b.atR a (.code (.scope c) :: k)) cs w) = .next (lone (b.atR a (.code c :: .inScope c :: k)) cs w) :=
  step_lone_go (by simp [stepG, stepG.exec, Frame.atR])
theorem stepR_inScope {c : Code} : step P (lone (b.atR a (.inScope c :: k)) cs w) = .next (lone (b.atR a k) cs w) :=
  step_lone_go (by simp [stepG, stepG.exec, Frame.atR])
theorem wpIn_scope {c : Code} (h : c.wpIn F n P (straightX Q) a w) : (Code.scope c).wpIn F n P Q a w := by
  intro b k cs hro hb hr
  have h0 : (lone (b.atR a (.code (.scope c) :: k)) cs w).fenced P F := fenced_calm hb hr rfl
  obtain ⟨e, a₁, w₁, hq, harr⟩ := h b (.inScope c :: k) cs hro hb hr
  cases e with
  | normal => exact ⟨.normal, a₁, w₁, hq, .head h0 stepR_scope (StepsIn.trans harr (.one (fenced_calm hb hr rfl) stepR_inScope))⟩
  | exit id =>
    have hx : exitTo id (.inScope c :: k) = exitTo id k := by simp [exitTo]
    exact ⟨.exit id, a₁, w₁, hq, fun k' hk => .head h0 stepR_scope (harr.1 k' (by rw [hx]; exact hk)),
      fun hr' hk => let ⟨k₁, h1, h2⟩ := harr.2 hr' (by rw [hx]; exact hk); ⟨k₁, h1, .head h0 stepR_scope h2⟩⟩
  | goto l => exact hq.elim
  | ret => exact ⟨_, a₁, w₁, hq, .of_steps (.one h0 stepR_scope) harr⟩
  | panic ch => exact ⟨_, a₁, w₁, hq, .of_steps (.one h0 stepR_scope) harr⟩
  | outgrown => exact ⟨_, a₁, w₁, hq, .of_steps (.one h0 stepR_scope) harr⟩
end scopes

theorem ignoreRound {P : Program} {r : Option Nat} {f : Nat} {xs : Array Value} {w : World} {R : Ending → World → Prop} (h : Calls P f xs w R) : CallsIn (FR r) 0 P f xs w R :=
  (callsIn_wide (n := 0)).2 h

theorem nthV_rel {ρ I} {tm : List V} {tmps : Array Value} (h : Rels ρ I tm tmps.toList) (t : Nat) : Rel ρ I (nthV tm t) (tmps.getD t undef) :=
  rel_evO (a := { tmps, defers := [] }) h (.tmp t)

theorem putT_rel {ρ I} {tm : List V} {a : Act} (h : Rels ρ I tm a.tmps.toList) {v : V} {x : Value} (hv : Rel ρ I v x) (dst : Option Nat) : Rels ρ I (putT tm dst v) (a.put dst x).tmps.toList := by
  cases dst with
  | none => exact h
  | some d => simpa [putT, Act.put] using h.set d hv
theorem put_defers (a : Act) (dst : Option Nat) (x : Value) : (a.put dst x).defers = a.defers := by cases dst <;> rfl

/-! ### A placeholder is filled -/
theorem Mod.fill {ρ I L w} (h : Mod ρ I L w) {t : Nat} (hL : L[t]? = some .dead) (hρ : ρ[t]? = some none) (te : TE) (blk : Blk) (o : Obj) (hb : te.b = w.heap.size) (ho : BRel (ρ.set t (some te)) I te blk o) :
    Mod (ρ.set t (some te)) I (L.set t blk) (w.alloc o) ∧ Stp ρ I L w (ρ.set t (some te)) I (L.set t blk) (w.alloc o) := by
  have hlt : t < L.length := (List.getElem?_eq_some_iff.1 hL).1
  have hltρ : t < ρ.length := (List.getElem?_eq_some_iff.1 hρ).1
  have hle : TEs.le ρ (ρ.set t (some te)) := fun s e hs => by
    by_cases hst : t = s
    · subst hst; rw [hρ] at hs; cases hs
    · rw [List.getElem?_set_ne hst]; exact hs
  have hold : ∀ k, k < w.heap.size → (w.alloc o).heap[k]? = w.heap[k]? := fun k hk => Below.heap_alloc w o k hk
  have hnew : (w.alloc o).heap[w.heap.size]? = some o := by show (w.heap.push o)[w.heap.size]? = some o; simp
  have split : ∀ (s : Nat) (b : Blk) (e : TE), (L.set t blk)[s]? = some b → (ρ.set t (some te))[s]? = some (some e) → (L[s]? = some b ∧ ρ[s]? = some (some e)) ∨ (s = t ∧ b = blk ∧ e = te) := by
    intro s b e h1 h2
    by_cases hst : t = s
    · subst hst
      rw [List.getElem?_set_self hlt] at h1
      rw [List.getElem?_set_self hltρ] at h2
      cases h1; cases h2; exact .inr ⟨rfl, rfl, rfl⟩
    · rw [List.getElem?_set_ne hst] at h1 h2
      exact .inl ⟨h1, h2⟩
  have hown : ∀ b, Own (ρ.set t (some te)) (L.set t blk) b → Own ρ L b ∨ w.heap.size ≤ b := by
    rintro b ⟨s, e, bl, h1, h2, h3, h4⟩
    rcases split s bl e h1 h3 with ⟨h5, h6⟩ | ⟨_, h5, h6⟩
    · exact .inl ⟨s, e, bl, h5, h2, h6, h4⟩
    · subst h6; exact .inr (by omega)
  refine ⟨⟨by simp [h.len], ?_, ?_, ?_, ?_, h.glob⟩, ⟨hle, by simp, Imm.le_refl _, fun _ _ h => .inl h, hown, rfl, rfl, rfl, by simp, fun b hb _ => hold b hb⟩⟩
  · intro s b e h1 h2 h3
    rcases split s b e h1 h3 with ⟨h4, h5⟩ | ⟨_, h4, h5⟩
    · obtain ⟨o', h6, h7⟩ := h.own s b e h4 h2 h5
      exact ⟨o', (hold _ (Array.getElem?_eq_some_iff.1 h6).1).trans h6, h7.mono hle (Imm.le_refl _)⟩
    · subst h4; subst h5; exact ⟨o, by rw [hb]; exact hnew, ho⟩
  · intro s s' b b' e e' h1 h1' h2 h2' h3 h3' he
    rcases split s b e h1 h3 with ⟨h4, h5⟩ | ⟨h4, h5, h6⟩ <;> rcases split s' b' e' h1' h3' with ⟨h4', h5'⟩ | ⟨h4', h5', h6'⟩
    · exact h.inj s s' b b' e e' h4 h4' h2 h2' h5 h5' he
    · have := h.blk_lt h4 h2 h5; subst h6'; omega
    · have := h.blk_lt h4' h2' h5'; subst h6; omega
    · omega
  · intro b o' hI
    have := h.imm b o' hI
    exact (hold b (Array.getElem?_eq_some_iff.1 this).1).trans this
  · intro b hb'
    rcases hown b hb' with h1 | h1
    · exact h.sep b h1
    · cases hI : I b with
      | none => rfl
      | some o' => have := (Array.getElem?_eq_some_iff.1 (h.imm b o' hI)).1; omega

theorem Mod.pad {ρ I L w} (h : Mod ρ I L w) (n : Nat) : Mod (ρ ++ List.replicate n none) I (L ++ List.replicate n .dead) w ∧ Stp ρ I L w (ρ ++ List.replicate n none) I (L ++ List.replicate n .dead) w := by
  have hle := TEs.le_append ρ (List.replicate n none)
  have split : ∀ (s : Nat) (b : Blk) (e : TE), (L ++ List.replicate n .dead)[s]? = some b → b.live = true → (ρ ++ List.replicate n none)[s]? = some (some e) → L[s]? = some b ∧ ρ[s]? = some (some e) := by
    intro s b e h1 hb h2
    by_cases hs : s < L.length
    · rw [List.getElem?_append_left hs] at h1
      rw [List.getElem?_append_left (by rw [h.len]; exact hs)] at h2
      exact ⟨h1, h2⟩
    · rw [List.getElem?_append_right (by omega)] at h1
      have := List.mem_of_getElem? h1
      rw [List.eq_of_mem_replicate this] at hb; cases hb
  have hown : ∀ b, Own (ρ ++ List.replicate n none) (L ++ List.replicate n .dead) b → Own ρ L b := by
    rintro b ⟨s, e, bl, h1, h2, h3, h4⟩
    obtain ⟨h5, h6⟩ := split s bl e h1 h2 h3
    exact ⟨s, e, bl, h5, h2, h6, h4⟩
  refine ⟨⟨by simp [h.len], ?_, ?_, h.imm, fun b hb => h.sep b (hown b hb), h.glob⟩, ⟨hle, by simp, Imm.le_refl _, fun _ _ h => .inl h, fun b hb => .inl (hown b hb), rfl, rfl, rfl, Nat.le_refl _, fun _ _ _ => rfl⟩⟩
  · intro s b e h1 h2 h3
    obtain ⟨h5, h6⟩ := split s b e h1 h2 h3
    obtain ⟨o', h7, h8⟩ := h.own s b e h5 h2 h6
    exact ⟨o', h7, h8.mono hle (Imm.le_refl _)⟩
  · intro s s' b b' e e' h1 h1' h2 h2' h3 h3' he
    obtain ⟨h5, h6⟩ := split s b e h1 h2 h3
    obtain ⟨h5', h6'⟩ := split s' b' e' h1' h2' h3'
    exact h.inj s s' b b' e e' h5 h5' h2 h2' h6 h6' he

/-- A new row (or one in the old row's place) under a tag that is free. -/
theorem Mod.appTe {ρ I L w} (h : Mod ρ I L w) {tag : Nat} (hL : L[tag]? = some .dead) (hρ : ρ[tag]? = some none) {x : Value} {w' : World} {t : Option Nat} {b : Blk} {v : Nat → V} {te : TE} {o : Obj}
    (hnew : w'.heap[te.b]? = some o) (hrel : ∀ ρ' t', TEs.le ρ ρ' → ρ'[t']? = some (some te) → BRel ρ' I te b o ∧ Rel ρ' I (v t') x)
    (hwhere : w.heap.size ≤ te.b ∨ ∃ t0 te0 blk0, t = some t0 ∧ L[t0]? = some blk0 ∧ blk0.live = true ∧ ρ[t0]? = some (some te0) ∧ te0.b = te.b)
    (hold : ∀ k, k < w.heap.size → k ≠ te.b → w'.heap[k]? = w.heap[k]?) (hsize : w.heap.size ≤ w'.heap.size) (hos : w'.os = w.os) (htp : w'.tape = w.tape) (hout : w'.output = w.output) :
    Mod (ρ.set tag (some te)) I ((killO L t).set tag b) w' ∧ Rel (ρ.set tag (some te)) I (v tag) x ∧ Stp ρ I L w (ρ.set tag (some te)) I ((killO L t).set tag b) w' := by
  have hlt : tag < L.length := (List.getElem?_eq_some_iff.1 hL).1
  have hltρ : tag < ρ.length := (List.getElem?_eq_some_iff.1 hρ).1
  have hkl : (killO L t).length = L.length := by cases t <;> simp [killO]
  have hk : ∀ (s : Nat) blk, (killO L t)[s]? = some blk → blk.live = true → L[s]? = some blk ∧ t ≠ some s := by
    intro s blk h1 h2
    cases t with
    | none => exact ⟨h1, fun h => by cases h⟩
    | some t0 =>
      by_cases hs : t0 = s
      · subst hs
        have hlt' : t0 < L.length := by have := (List.getElem?_eq_some_iff.1 h1).1; rw [hkl] at this; exact this
        simp only [killO] at h1
        rw [List.getElem?_set_self hlt'] at h1; cases h1; cases h2
      · simp only [killO] at h1
        rw [List.getElem?_set_ne hs] at h1
        exact ⟨h1, fun h => hs (by cases h; rfl)⟩
  have hle : TEs.le ρ (ρ.set tag (some te)) := fun s e hs => by
    by_cases hst : tag = s
    · subst hst; rw [hρ] at hs; cases hs
    · rw [List.getElem?_set_ne hst]; exact hs
  obtain ⟨hb, hv⟩ := hrel _ tag hle (by rw [List.getElem?_set_self hltρ])
  have split : ∀ (s : Nat) (c : Blk) (e : TE), ((killO L t).set tag b)[s]? = some c → c.live = true → (ρ.set tag (some te))[s]? = some (some e) → (L[s]? = some c ∧ ρ[s]? = some (some e) ∧ s ≠ tag ∧ t ≠ some s) ∨ (s = tag ∧ c = b ∧ e = te) := by
    intro s c e h1 hl h2
    by_cases hst : tag = s
    · subst hst
      rw [List.getElem?_set_self (by omega)] at h1
      rw [List.getElem?_set_self hltρ] at h2
      cases h1; cases h2; exact .inr ⟨rfl, rfl, rfl⟩
    · rw [List.getElem?_set_ne hst] at h1 h2
      obtain ⟨h3, h4⟩ := hk s c h1 hl
      exact .inl ⟨h3, h2, fun e => hst e.symm, h4⟩
  -- another live tag's block is not the row's
  have hne : ∀ (s : Nat) c e, L[s]? = some c → c.live = true → ρ[s]? = some (some e) → t ≠ some s → e.b ≠ te.b := by
    intro s c e h1 h2 h3 h4 he
    rcases hwhere with hw | ⟨t0, te0, blk0, rfl, k1, k2, k3, k4⟩
    · have := h.blk_lt h1 h2 h3; omega
    · have := h.inj s t0 c blk0 e te0 h1 k1 h2 k2 h3 k3 (by omega)
      exact h4 (by rw [this])
  have hown : ∀ c, Own (ρ.set tag (some te)) ((killO L t).set tag b) c → Own ρ L c ∨ w.heap.size ≤ c := by
    rintro c ⟨s, e, bl, h1, h2, h3, h4⟩
    rcases split s bl e h1 h2 h3 with ⟨h5, h6, _⟩ | ⟨_, h5, h6⟩
    · exact .inl ⟨s, e, bl, h5, h2, h6, h4⟩
    · subst h6
      rcases hwhere with hw | ⟨t0, te0, blk0, _, k1, k2, k3, k4⟩
      · exact .inr (by omega)
      · exact .inl ⟨t0, te0, blk0, k1, k2, k3, by omega⟩
  have himm : ∀ c o', I c = some o' → c ≠ te.b := by
    intro c o' hI he
    have h1 := (Array.getElem?_eq_some_iff.1 (h.imm c o' hI)).1
    rcases hwhere with hw | ⟨t0, te0, blk0, _, k1, k2, k3, k4⟩
    · omega
    · have := h.sep c ⟨t0, te0, blk0, k1, k2, k3, by omega⟩
      rw [this] at hI; cases hI
  refine ⟨⟨by simp [h.len, hkl], ?_, ?_, ?_, ?_, h.glob⟩, hv, ⟨hle, by simp, Imm.le_refl _, fun _ _ h => .inl h, hown, hos, htp, hout, hsize, ?_⟩⟩
  · intro s c e h1 h2 h3
    rcases split s c e h1 h2 h3 with ⟨h4, h5, _, h6⟩ | ⟨_, h4, h5⟩
    · obtain ⟨o', h7, h8⟩ := h.own s c e h4 h2 h5
      exact ⟨o', (hold _ (h.blk_lt h4 h2 h5) (hne s c e h4 h2 h5 h6)).trans h7, h8.mono hle (Imm.le_refl _)⟩
    · subst h4; subst h5; exact ⟨o, hnew, hb⟩
  · intro s s' c c' e e' h1 h1' h2 h2' h3 h3' he
    rcases split s c e h1 h2 h3 with ⟨h4, h5, _, h7⟩ | ⟨h4, h5, h6⟩ <;> rcases split s' c' e' h1' h2' h3' with ⟨h4', h5', _, h7'⟩ | ⟨h4', h5', h6'⟩
    · exact h.inj s s' c c' e e' h4 h4' h2 h2' h5 h5' he
    · subst h6'; exact absurd he (hne s c e h4 h2 h5 h7)
    · subst h6; exact absurd he.symm (hne s' c' e' h4' h2' h5' h7')
    · omega
  · intro c o' hI
    exact (hold c (Array.getElem?_eq_some_iff.1 (h.imm c o' hI)).1 (himm c o' hI)).trans (h.imm c o' hI)
  · intro c hc
    cases hI : I c with
    | none => rfl
    | some o' =>
      rcases hown c hc with h1 | h1
      · have := h.sep c h1; rw [this] at hI; cases hI
      · have := (Array.getElem?_eq_some_iff.1 (h.imm c o' hI)).1; omega
  · intro c hc hno
    refine hold c hc fun he => hno ?_
    rcases hwhere with hw | ⟨t0, te0, blk0, _, k1, k2, k3, k4⟩
    · omega
    · exact ⟨t0, te0, blk0, k1, k2, k3, by omega⟩

/-- What an append comes to: in the place of a tag that is free. -/
theorem Mod.appW {ρ I L w} (h : Mod ρ I L w) {tag : Nat} (hL : L[tag]? = some .dead) (hρ : ρ[tag]? = some none) {x : Value} {w' : World} {t : Option Nat} {off : Nat} {b : Blk} {n sz : Nat} {v : Nat → V} (hc : AppW ρ I L w x w' t off b n sz v) :
    ∃ ρ', Mod ρ' I ((killO L t).set tag b) w' ∧ Rel ρ' I (v tag) x ∧ Stp ρ I L w ρ' I ((killO L t).set tag b) w' ∧ ∀ k, k ≠ tag → ρ'[k]? = ρ[k]? := by
  have hlt : tag < L.length := (List.getElem?_eq_some_iff.1 hL).1
  have hltρ : tag < ρ.length := (List.getElem?_eq_some_iff.1 hρ).1
  have hkl : (killO L t).length = L.length := by cases t <;> simp [killO]
  have hk : ∀ (s : Nat) blk, (killO L t)[s]? = some blk → blk.live = true → L[s]? = some blk ∧ t ≠ some s := by
    intro s blk h1 h2
    cases t with
    | none => exact ⟨h1, fun h => by cases h⟩
    | some t0 =>
      by_cases hs : t0 = s
      · subst hs
        have hlt' : t0 < L.length := by have := (List.getElem?_eq_some_iff.1 h1).1; rw [hkl] at this; exact this
        simp only [killO] at h1
        rw [List.getElem?_set_self hlt'] at h1; cases h1; cases h2
      · simp only [killO] at h1
        rw [List.getElem?_set_ne hs] at h1
        exact ⟨h1, fun h => hs (by cases h; rfl)⟩
  rcases hc with ⟨te, o, rfl, rfl, hnew, hrel, hwhere, hold, hsize, hos, htp, hout⟩ | ⟨rfl, hrel⟩
  · obtain ⟨p1, p2, p3⟩ := h.appTe (t := t) (b := b) hL hρ hnew hrel (hwhere.imp id fun ⟨t0, te0, blk0, q1, q2, q3, q4, q5, _⟩ => ⟨t0, te0, blk0, q1, q2, q3, q4, q5⟩) hold hsize hos htp hout
    exact ⟨_, p1, p2, p3, fun k hk' => by rw [List.getElem?_set_ne (Ne.symm hk')]⟩
  · -- nothing happens: the tag leads nowhere
    have split : ∀ (s : Nat) (c : Blk) (e : TE), ((killO L t).set tag b)[s]? = some c → c.live = true → ρ[s]? = some (some e) → L[s]? = some c := by
      intro s c e h1 hl h2
      by_cases hst : tag = s
      · subst hst; rw [hρ] at h2; cases h2
      · rw [List.getElem?_set_ne hst] at h1
        exact (hk s c h1 hl).1
    have hown : ∀ c, Own ρ ((killO L t).set tag b) c → Own ρ L c := by
      rintro c ⟨s, e, bl, h1, h2, h3, h4⟩
      exact ⟨s, e, bl, split s bl e h1 h2 h3, h2, h3, h4⟩
    refine ⟨ρ, ⟨by simp [h.len, hkl], ?_, ?_, h.imm, fun c hc => h.sep c (hown c hc), h.glob⟩, hrel ρ tag, ⟨TEs.le_refl _, Nat.le_refl _, Imm.le_refl _, fun _ _ h => .inl h, fun c hc => .inl (hown c hc), rfl, rfl, rfl, Nat.le_refl _, fun _ _ _ => rfl⟩, fun _ _ => rfl⟩
    · intro s c e h1 h2 h3
      exact h.own s c e (split s c e h1 h2 h3) h2 h3
    · intro s s' c c' e e' h1 h1' h2 h2' h3 h3' he
      exact h.inj s s' c c' e e' (split s c e h1 h2 h3) (split s' c' e' h1' h2' h3') h2 h2' h3 h3' he

theorem Mod.app {P : Program} {ρ I L w} (h : Mod ρ I L w) {tag : Nat} (hL : L[tag]? = some .dead) (hρ : ρ[tag]? = some none) {s : Sem Next} {t : Option Nat} {off : Nat} {b : Blk} {n sz : Nat} {v : Nat → V} (ha : AppTo P ρ I L w s t off b n sz v) :
    ∃ x w' ρ', RunsTo P s w x w' ∧ Mod ρ' I ((killO L t).set tag b) w' ∧ Rel ρ' I (v tag) x ∧ Stp ρ I L w ρ' I ((killO L t).set tag b) w' ∧ ∀ k, k ≠ tag → ρ'[k]? = ρ[k]? := by
  obtain ⟨x, w', hrun, hc⟩ := ha
  obtain ⟨ρ', h1⟩ := h.appW hL hρ hc
  exact ⟨x, w', ρ', hrun, h1⟩

theorem evPR_ok {P : Program} {ρ I L w} (hM : Mod ρ I L w) {s : Sem Next} {dst : Option Nat} {tm : List V} {K : List V → List Blk → Prop} : ∀ {pr : PR}, pr.Ok P ρ I L w s → evPR pr tm L dst K →
    ∃ x w' v ρ' I' L', RunsTo P s w x w' ∧ Rel ρ' I' v x ∧ Mod ρ' I' L' w' ∧ Stp ρ I L w ρ' I' L' w' ∧ K (putT tm dst v) L'
  | .val v, h, hk => by
    obtain ⟨x, h1, h2⟩ := h
    simp only [evPR, forceV_eq, putK_eq] at hk
    exact ⟨x, w, v, ρ, I, L, h2, h1, hM, Stp.refl _ _ _ _, hk⟩
  | .upd t b, h, hk => by
    obtain ⟨blk, te, o', w', h1, h2, h3, h4, h5, h6⟩ := h
    simp only [evPR, setK_eq, putK_eq] at hk
    obtain ⟨m1, m2⟩ := hM.update h1 h2 h3 h5.new h4 h5.old h5.size h5.os h5.tape h5.output
    exact ⟨undef, w', .tup [], ρ, I, _, h6, .tup _ _ .nil, m1, m2, hk⟩
  | .updv t b v, h, hk => by
    obtain ⟨blk, te, o', w', x, h1, h2, h3, h4, h5, h7, h6⟩ := h
    simp only [evPR, setK_eq, forceV_eq, putK_eq] at hk
    obtain ⟨m1, m2⟩ := hM.update h1 h2 h3 h5.new h4 h5.old h5.size h5.os h5.tape h5.output
    exact ⟨x, w', v, ρ, I, _, h6, h7, m1, m2, hk⟩
  | .br c r r', h, hk => by
    simp only [evPR, branch_iff] at hk
    cases c with
    | true => exact evPR_ok hM (h.1 rfl) (hk.1 rfl)
    | false => exact evPR_ok hM (h.2 rfl) (hk.2 rfl)
  | .all p r, h, hk => by
    obtain ⟨i, h1, h2⟩ := h
    simp only [evPR] at hk
    exact evPR_ok hM h2 (hk i h1)
  | .new b n m sz v, h, hk => by
    obtain ⟨o, x, h3, h12⟩ := h
    obtain ⟨h1, h2⟩ := h12 (ρ ++ [some ⟨w.heap.size, 0, sz, n, m⟩]) L.length (TEs.le_append _ _) (last_get hM.len _)
    simp only [evPR, appK_eq, forceV_eq, putK_eq, Nat.zero_add] at hk
    obtain ⟨m1, m2⟩ := hM.alloc ⟨w.heap.size, 0, sz, n, m⟩ b o rfl h1
    exact ⟨x, _, _, _, I, _, h3, h2, m1, m2, hk⟩
  | .grd c r, h, hk => by
    cases c with
    | true => exact evPR_ok hM (h rfl) hk
    | false => exact hk.elim
  | .req p r, h, hk => by
    simp only [evPR] at hk
    exact evPR_ok hM (h hk.1) hk.2
  | .app t off b n sz v, h, hk => by
    simp only [evPR, killK_eq, appK_eq, forceV_eq, putK_eq, Nat.zero_add] at hk
    obtain ⟨m1, m2⟩ := hM.pad 1
    have hlen := hM.len
    have hkl : (killO L t).length = L.length := by cases t <;> simp [killO]
    have hap : AppTo P (ρ ++ List.replicate 1 none) I (L ++ List.replicate 1 .dead) w s t off b n sz v := by
      obtain ⟨x, w', h1, h2⟩ := h
      refine ⟨x, w', h1, h2.imp ?_ id⟩
      rintro ⟨te, o, a1, a2, a3, a4, a5, a6⟩
      refine ⟨te, o, a1, a2, a3, fun ρ' t' hle => a4 ρ' t' (TEs.le_trans m2.rho hle), a5.imp id ?_, a6⟩
      rintro ⟨t0, te0, blk0, k0, k1, k2, k3, k4⟩
      have hlt := (List.getElem?_eq_some_iff.1 k1).1
      exact ⟨t0, te0, blk0, k0, by rw [List.getElem?_append_left hlt]; exact k1, k2, by rw [List.getElem?_append_left (by omega)]; exact k3, k4⟩
    obtain ⟨x, w', ρ', q1, q2, q3, q4, _⟩ := m1.app (tag := L.length) (by simp) (by rw [← hlen]; simp) hap
    have hL : (killO (L ++ List.replicate 1 .dead) t).set L.length b = killO L t ++ [b] ∨ ∃ t0, t = some t0 ∧ L.length ≤ t0 := by
      cases t with
      | none => left; simp [killO, List.set_append]
      | some t0 =>
        by_cases ht : t0 < L.length
        · left; simp [killO, List.set_append, ht]
        · right; exact ⟨t0, rfl, by omega⟩
    rcases hL with hL | ⟨t0, rfl, ht0⟩
    · rw [hL] at q2 q4
      rw [hkl] at hk
      exact ⟨x, w', _, ρ', I, _, q1, q3, q2, m2.trans q4, hk⟩
    · have hL2 : (killO (L ++ List.replicate 1 .dead) (some t0)).set L.length b = killO L (some t0) ++ [b] := by
        have e1 : killO L (some t0) = L := by simp [killO, List.set_eq_of_length_le ht0]
        rw [e1]
        by_cases h0 : t0 = L.length
        · subst h0; simp [killO, List.set_append]
        · have : killO (L ++ List.replicate 1 .dead) (some t0) = L ++ List.replicate 1 .dead := by simp only [killO]; exact List.set_eq_of_length_le (by simp; omega)
          rw [this]; simp [List.set_append]
      rw [hL2] at q2 q4
      rw [hkl] at hk
      exact ⟨x, w', _, ρ', I, _, q1, q3, q2, m2.trans q4, hk⟩
  | .bad, _, hk => hk.elim

/-! ### Both outcomes of an append -/
section two
variable {ρ : List (Option TE)} {I : Imm} {t k n : Nat} {te te0 : TE}
/-- Tag k leads to tag t's place, to n elements of it. -/
structure SamePlace (ρ : List (Option TE)) (t k n : Nat) (te0 te : TE) : Prop where
  ht : ρ[t]? = some (some te0)
  hk : ρ[k]? = some (some te)
  b : te0.b = te.b
  o : te.o = te0.o
  sz : te.sz = te0.sz
  m : te.m = te0.m
  n : te.n = n
theorem ren1_ok (hp : SamePlace ρ t k n te0 te) {K : V → Prop} {v : V} (h : ren1 t k n K v) : ∃ v', K v' ∧ ∀ x, Rel ρ I v x → Rel ρ I v' x := by
  cases v with
  | sl s z o l c =>
    simp only [ren1] at h
    split at h
    · rename_i hs
      have hs := natEq_eq hs
      subst hs
      rcases h with ⟨hn, h⟩ | h
      · refine ⟨_, h, fun x hx => ?_⟩
        cases hx with
        | slNil => exact .slNil _ _ _
        | sl _ _ _ _ _ c' te' o' h1 h2 h3 h4 h5 h6 h7 =>
          rw [hp.ht] at h1
          cases h1
          have := Rel.sl (I := I) k z o l c c' te o' hp.hk (by rw [hp.sz]; exact h2) (by rw [hp.n]; exact hn) h4 h5 (by rw [hp.m]; exact h6) (fun hc => by rw [hp.o, hp.sz]; exact h7 hc)
          rw [← hp.b] at this
          exact this
      · exact ⟨_, h, fun _ hx => hx⟩
    · exact ⟨_, h, fun _ hx => hx⟩
  | ptr s i u =>
    simp only [ren1] at h
    split at h
    · rename_i hs
      have hs := natEq_eq hs
      subst hs
      rcases h with ⟨hn, h⟩ | h
      · refine ⟨_, h, fun x hx => ?_⟩
        cases hx with
        | ptr _ _ _ te' h1 h2 =>
          rw [hp.ht] at h1
          cases h1
          have := Rel.ptr (I := I) k i u te hp.hk (by rw [hp.n]; exact hn)
          rw [← hp.b, hp.o, hp.sz] at this
          exact this
      · exact ⟨_, h, fun _ hx => hx⟩
    · exact ⟨_, h, fun _ hx => hx⟩
  | _ => exact ⟨_, h, fun _ hx => hx⟩
theorem ren1s_ok (hp : SamePlace ρ t k n te0 te) : ∀ {l : List V} {K : List V → Prop}, ren1s t k n K l → ∃ l', K l' ∧ ∀ xs, Rels ρ I l xs → Rels ρ I l' xs
  | [], K, h => ⟨[], h, fun _ hx => hx⟩
  | v :: l, K, h => by
    simp only [ren1s] at h
    obtain ⟨v', h1, hv⟩ := ren1_ok (I := I) hp h
    obtain ⟨l', h2, hl⟩ := ren1s_ok hp h1
    refine ⟨v' :: l', h2, fun xs hx => ?_⟩
    cases hx with | cons _ _ x xs hx hxs => exact .cons _ _ _ _ (hv _ hx) (hl _ hxs)
/-- The same memory, told otherwise. -/
def BlkLe (ρ : List (Option TE)) (I : Imm) (b b' : Blk) : Prop := b'.live = b.live ∧ ∀ te o, BRel ρ I te b o → BRel ρ I te b' o
theorem BlkLe.refl (b : Blk) : BlkLe ρ I b b := ⟨rfl, fun _ _ h => h⟩
theorem renBs_ok (hp : SamePlace ρ t k n te0 te) : ∀ {L : List Blk} {K : List Blk → Prop}, renBs t k n K L → ∃ L', K L' ∧ L'.length = L.length ∧ ∀ (s : Nat) b', L'[s]? = some b' → ∃ b, L[s]? = some b ∧ BlkLe ρ I b b'
  | [], K, h => ⟨[], h, rfl, fun s b' hb => by simp at hb⟩
  | b :: L, K, h => by
    have key : ∃ b', BlkLe ρ I b b' ∧ renBs t k n (fun L => K (b' :: L)) L := by
      cases b with
      | fix e cs =>
        simp only [renBs] at h
        obtain ⟨cs', h1, hc⟩ := ren1s_ok (I := I) hp h
        refine ⟨.fix e cs', ⟨rfl, ?_⟩, h1⟩
        rintro te o ⟨⟨arr, el, g1, g2, g3, g4⟩, g5, g6⟩
        refine ⟨⟨arr, el, g1, g2, g3, fun i hi => ?_⟩, g5, g6⟩
        obtain ⟨q1, q2⟩ := g4 i hi
        have q3 := hc _ q2
        exact ⟨by have a1 := q2.length; have a2 := q3.length; show cs'.length = te.sz; rw [a2, ← a1]; exact q1, q3⟩
      | _ => exact ⟨_, .refl _, h⟩
    obtain ⟨b', hb, h1⟩ := key
    obtain ⟨L', h2, h3, h4⟩ := renBs_ok hp h1
    refine ⟨b' :: L', h2, by simp [h3], fun s c hs => ?_⟩
    cases s with
    | zero => simp at hs; subst hs; exact ⟨b, by simp, hb⟩
    | succ s => simp at hs; simpa using h4 s c hs
theorem Mod.told {w : World} {L L' : List Blk} (h : Mod ρ I L w) (hl : L'.length = L.length) (hb : ∀ (s : Nat) b', L'[s]? = some b' → ∃ b, L[s]? = some b ∧ BlkLe ρ I b b') : Mod ρ I L' w ∧ ∀ c, Own ρ L' c → Own ρ L c := by
  have hown : ∀ c, Own ρ L' c → Own ρ L c := by
    rintro c ⟨s, e, bl, h1, h2, h3, h4⟩
    obtain ⟨b, h5, h6⟩ := hb s bl h1
    exact ⟨s, e, b, h5, by rw [← h6.1]; exact h2, h3, h4⟩
  refine ⟨⟨by rw [hl]; exact h.len, ?_, ?_, h.imm, fun c hc => h.sep c (hown c hc), h.glob⟩, hown⟩
  · intro s b' e h1 h2 h3
    obtain ⟨b, h4, h5⟩ := hb s b' h1
    obtain ⟨o, h6, h7⟩ := h.own s b e h4 (by rw [← h5.1]; exact h2) h3
    exact ⟨o, h6, h5.2 _ _ h7⟩
  · intro s s' b b' e e' h1 h1' h2 h2' h3 h3' he
    obtain ⟨c, h4, h5⟩ := hb s b h1
    obtain ⟨c', h4', h5'⟩ := hb s' b' h1'
    exact h.inj s s' c c' e e' h4 h4' (by rw [← h5.1]; exact h2) (by rw [← h5'.1]; exact h2') h3 h3' he
end two
theorem evP2_ok {P : Program} {ρ I L w} (hM : Mod ρ I L w) {s : Sem Next} {dst : Option Nat} {tm : List V} {K : List V → List Blk → Prop} : ∀ {pr : PR}, pr.Ok P ρ I L w s → evP2 pr tm L dst K →
    ∃ x w' v tm' ρ' I' L', RunsTo P s w x w' ∧ Rel ρ' I' v x ∧ Mod ρ' I' L' w' ∧ Stp ρ I L w ρ' I' L' w' ∧ (∀ xs, Rels ρ I tm xs → Rels ρ' I' tm' xs) ∧ K (putT tm' dst v) L' := by
  have old : ∀ {pr : PR}, pr.Ok P ρ I L w s → evPR pr tm L dst K → ∃ x w' v tm' ρ' I' L', RunsTo P s w x w' ∧ Rel ρ' I' v x ∧ Mod ρ' I' L' w' ∧ Stp ρ I L w ρ' I' L' w' ∧ (∀ xs, Rels ρ I tm xs → Rels ρ' I' tm' xs) ∧ K (putT tm' dst v) L' := by
    intro pr h hk
    obtain ⟨x, w', v, ρ', I', L', h1, h2, h3, h4, h5⟩ := evPR_ok hM h hk
    exact ⟨x, w', v, tm, ρ', I', L', h1, h2, h3, h4, fun xs hx => hx.mono h4.rho h4.im, h5⟩
  intro pr
  induction pr with
  | val v => exact fun h hk => old h hk
  | upd t b => exact fun h hk => old h hk
  | updv t b v => exact fun h hk => old h hk
  | new b n m sz v => exact fun h hk => old h hk
  | bad => exact fun _ hk => hk.elim
  | br c r r' ih ih' =>
    intro h hk
    simp only [evP2, branch_iff] at hk
    cases c with
    | true => exact ih (h.1 rfl) (hk.1 rfl)
    | false => exact ih' (h.2 rfl) (hk.2 rfl)
  | all p r ih =>
    intro h hk
    obtain ⟨i, h1, h2⟩ := h
    exact ih i h2 (hk i h1)
  | grd c r ih =>
    intro h hk
    cases c with
    | true => exact ih (h rfl) hk
    | false => exact hk.elim
  | req p r ih =>
    intro h hk
    exact ih (h hk.1) hk.2
  | app t off b n sz v =>
    intro h hk
    obtain ⟨hA, hB⟩ := hk
    obtain ⟨x, w', hrun, hc⟩ := h
    rcases hc with ⟨te, o, a1, a2, a3, a4, hw | hw, a6⟩ | ⟨a1, a2⟩
    · exact old (pr := .app none off b n sz v) ⟨x, w', hrun, .inl ⟨te, o, a1, a2, a3, a4, .inl hw, a6⟩⟩ hA
    · obtain ⟨t0, te0, blk0, rfl, k1, k2, k3, k4, k5, k6, k7⟩ := hw
      cases off with
      | succ off => exact hB.elim
      | zero =>
      simp only [appK_eq, Nat.zero_add, setK_eq] at hB
      have hlt := (List.getElem?_eq_some_iff.1 k1).1
      have hlen := hM.len
      obtain ⟨m1, m2⟩ := hM.pad 1
      have hρ1 : (ρ ++ List.replicate 1 none)[L.length]? = some none := by rw [← hlen]; simp
      obtain ⟨b1, b2, b3, b4, b5⟩ := a6
      have hlt0 : te0.b < w.heap.size := hM.blk_lt k1 k2 k3
      obtain ⟨q1, q2, q3⟩ := m1.appTe (t := some t0) (tag := L.length) (b := b) (v := v) (x := x) (by simp) hρ1 a3 (fun ρ' t' hle => a4 ρ' t' (TEs.le_trans m2.rho hle))
        (.inr ⟨t0, te0, blk0, rfl, by rw [List.getElem?_append_left hlt]; exact k1, k2, by rw [List.getElem?_append_left (by omega)]; exact k3, k4⟩) b1 b2 b3 b4 b5
      have hne : L.length ≠ t0 := by omega
      have hL2 : (killO (L ++ List.replicate 1 .dead) (some t0)).set L.length b = (L ++ [b]).set t0 .dead := by
        simp [killO, List.set_append, hlt]
      rw [hL2] at q1 q3
      have hp : SamePlace ((ρ ++ List.replicate 1 none).set L.length (some te)) t0 L.length n te0 te :=
        ⟨by rw [List.getElem?_set_ne hne, List.getElem?_append_left (by omega)]; exact k3, by rw [List.getElem?_set_self (by simp; omega)], k4, by rw [k6]; simp, k5, by rw [k7]; simp, a1⟩
      obtain ⟨L', h1, h2, h3⟩ := renBs_ok (I := I) hp hB
      obtain ⟨tm', h4, h5⟩ := ren1s_ok (I := I) hp h1
      simp only [forceV_eq, putK_eq] at h4
      obtain ⟨m3, m4⟩ := q1.told h2 h3
      refine ⟨x, w', _, tm', _, I, L', hrun, q2, m3, ?_, fun xs hx => h5 _ (hx.mono (TEs.le_trans m2.rho q3.rho) (Imm.le_refl _)), h4⟩
      have q4 := m2.trans q3
      exact ⟨q4.rho, q4.rlen, q4.im, q4.imn, fun c hc => q4.own c (m4 c hc), q4.os, q4.tape, q4.output, q4.size, q4.frame⟩
    · exact old (pr := .app none off b n sz v) ⟨x, w', hrun, .inr ⟨a1, a2⟩⟩ hA

theorem getOp_eq (l : List Oper) (n : Nat) : getOp l n = l[n]? := by
  induction l generalizing n with
  | nil => simp [getOp]
  | cons o l ih => cases n <;> simp [getOp, ih]

theorem setBool_rel {ρ I} {tm : List V} {tmps : Array Value} (h : Rels ρ I tm tmps.toList) {d : Nat} {b : Bool} (hb : tmps.getD d undef = .bool b) : Rels ρ I (tm.set d (.bool b)) tmps.toList := by
  have h2 := h.set d (Rel.bool (ρ := ρ) (I := I) b)
  have : tmps.toList.set d (.bool b) = tmps.toList := by
    apply List.ext_getElem?
    intro j
    by_cases hj : d = j
    · subst hj
      rw [List.getElem?_set]
      simp only [if_true]
      rw [Array.getD_eq_getD_getElem?] at hb
      cases hq : tmps[d]? with
      | none => rw [hq] at hb; cases hb
      | some y => rw [hq] at hb; simp at hb; subst hb; obtain ⟨hlt, he⟩ := Array.getElem?_eq_some_iff.1 hq; simp [hlt, he]
    · rw [List.getElem?_set_ne hj]
  rw [this] at h2; exact h2

theorem wantK_ok {ρ I} {ops : Array Oper} {tm : List V} {a : Act} (h : Rels ρ I tm a.tmps.toList) (o : Oper) {K : Bool → List V → Prop} (hk : wantK ops.toList tm o.guard K) :
    ∃ tm', Rels ρ I tm' a.tmps.toList ∧ K (Region.wanted o (yielded ops a.tmps)) tm' := by
  unfold wantK at hk
  unfold Region.wanted
  split at hk
  · rename_i hg; rw [hg]; exact ⟨tm, h, hk⟩
  · rename_i j want hg
    rw [hg]
    split at hk
    · rename_i oj hoj
      rw [getOp_eq] at hoj
      split at hk
      · rename_i d hd
        have hv := nthV_rel h d
        split at hk
        · rename_i b hb
          rw [hb] at hv
          have hx : a.tmps.getD d undef = .bool b := hv.boolInv
          have hy : yielded ops a.tmps j = some b := by
            have ho' : ops[j]? = some oj := by simpa using hoj
            have hx' : a.tmps[d]? = some (.bool b) := by
              rw [Array.getD_eq_getD_getElem?] at hx
              cases hq : a.tmps[d]? with
              | none => rw [hq] at hx; cases hx
              | some y => rw [hq] at hx; simp at hx; rw [hx]
            simp [yielded, ho', hd, hx']
          simp only [hy]
          refine ⟨_, setBool_rel h hx, ?_⟩
          cases want <;> cases b <;> simpa [branch, setK_eq] using hk
        · rename_i ts hb
          rw [hb] at hv
          have hy : yielded ops a.tmps j = none := by
            have ho' : ops[j]? = some oj := by simpa using hoj
            rw [Array.getD_eq_getD_getElem?] at hv
            cases hq : a.tmps[d]? with
            | none => simp [yielded, ho', hd, hq]
            | some y => rw [hq] at hv; cases hv; simp [yielded, ho', hd, hq]
          simp only [hy]
          refine ⟨tm, h, ?_⟩
          cases want <;> exact hk
        · exact hk.elim
      · exact hk.elim
    · exact hk.elim

theorem run_callee {P : Program} {ρ I} {w : World} {tm : List V} {a : Act} (h : Rels ρ I tm a.tmps.toList) {o : Oper} {c : Call} {g : Nat} {Vs : List V} (ho : o.op = .call c) (hc : callee tm c = some (g, Vs)) :
    ∃ xs : Array Value, (execOp a.eval o).run P w = (callFunc g xs).run P w ∧ Rels ρ I Vs xs.toList := by
  unfold callee at hc
  split at hc
  · rename_i f hf
    split at hc
    · rename_i g' caps hv
      cases hc
      have hx := rel_evO h f
      rw [hv] at hx
      generalize hax : a.eval f = X at hx
      cases hx; rename_i xc hxc
      refine ⟨c.args.map a.eval ++ xc, ?_, ?_⟩
      · simp only [execOp, ho, resolve, hf, hax, Deferred.ofValue, Sem.run_bind, Sem.run_pure, Result.andThen_ok, invoke]
        simp
      · have := (relsMap h c.args.toList).append hxc
        simpa using this
    · cases hc
  · cases hc

def resOne (tmps : Array Value) : ResultVar → Sem Value
  | .tmp t => pure (tmps.getD t undef)
  | .cell a t => do loadVar t (← asAddr (tmps.getD a undef))

theorem results_ok {P : Program} {T : Tab} (hT : TOk P T) {ρ I L w} (hM : Mod ρ I L w) {tm : List V} {tmps : Array Value} (h : Rels ρ I tm tmps.toList) : ∀ {l : List ResultVar} {r : List V}, results' T tm L l = some r →
    ∃ xs, (l.mapM (resOne tmps)).run P w = .ok xs w ∧ Rels ρ I r xs
  | [], r, hr => by simp [results'] at hr; subst hr; exact ⟨[], by simp, .nil⟩
  | .tmp t :: l, r, hr => by
    simp only [results'] at hr
    split at hr
    · rename_i r' hr'
      cases hr
      obtain ⟨xs, h1, h2⟩ := results_ok hT hM h hr'
      refine ⟨tmps.getD t undef :: xs, ?_, .cons _ _ _ _ (nthV_rel h t) h2⟩
      simp only [List.mapM_cons, resOne, Sem.run_bind, Sem.run_pure, Result.andThen_ok, h1]
    · cases hr
  | .cell a t :: l, r, hr => by
    simp only [results'] at hr
    split at hr
    · rename_i v r' hv hr'
      cases hr
      obtain ⟨xs, h1, h2⟩ := results_ok hT hM h hr'
      obtain ⟨y, h3, h4⟩ := run_ptrLoad (P := P) hT hM (nthV_rel h a) hv
      refine ⟨y :: xs, ?_, .cons _ _ _ _ h4 h2⟩
      have h5 : (resOne tmps (.cell a t)).run P w = .ok y w := by
        obtain ⟨ad, had⟩ : ∃ ad, tmps.getD a undef = .pointer (some ad) := by
          cases hX : tmps.getD a undef <;> rw [hX] at h3 <;> simp [Instr.loadAt, Instr.sureAddr] at h3
          rename_i ad
          cases ad with
          | none => simp at h3
          | some ad => exact ⟨ad, rfl⟩
        rw [had] at h3
        simp only [Instr.loadAt, Instr.sureAddr, Sem.run_bind, Sem.run_pure, Result.andThen_ok] at h3
        simp only [resOne, had, asAddr, Sem.run_bind, Sem.run_pure, Result.andThen_ok, h3]
      simp only [List.mapM_cons, Sem.run_bind, h5, Result.andThen_ok, h1, Sem.run_pure]
    · cases hr

theorem run_results {P : Program} {T : Tab} (hT : TOk P T) {ρ I L w} (hM : Mod ρ I L w) {fn : Func} {tm : List V} {tmps : Array Value} (h : Rels ρ I tm tmps.toList) {r : List V} (hr : results' T tm L fn.results.toList = some r) :
    ∃ x, (results fn tmps).run P w = .ok x w ∧ Rel ρ I (oneOr r) x := by
  obtain ⟨xs, h1, h2⟩ := results_ok (P := P) hT hM h hr
  have h3 : (fn.results.mapM (resOne tmps)).run P w = .ok xs.toArray w := by
    rw [Array.mapM_eq_mapM_toList, Sem.run_map, h1]; rfl
  have he : results fn tmps = (do let vs ← fn.results.mapM (resOne tmps); pure (if h : vs.size = 1 then vs[0] else .tuple vs)) := by
    unfold results
    congr 1
  rw [he]
  cases h2 with
  | nil => exact ⟨.tuple #[], by simp [h3], .tup _ _ .nil⟩
  | cons v l x xs hv hs =>
    cases hs with
    | nil => exact ⟨x, by simp [h3], hv⟩
    | cons v' l' x' xs' hv' hs' =>
      refine ⟨.tuple (x :: x' :: xs').toArray, ?_, .tup _ _ (.cons _ _ _ _ hv (.cons _ _ _ _ hv' hs'))⟩
      simp only [Sem.run_bind, h3, Result.andThen_ok, Sem.run_pure]
      rw [dif_neg (by simp)]

theorem undefs_rel (ρ I) (n : Nat) : Rels ρ I (undefs n) (List.replicate n undef) := by
  induction n with
  | zero => exact .nil
  | succ n ih => exact .cons _ _ _ _ (.tup _ _ .nil) ih
theorem padTo_rel {ρ I} : ∀ {l : List V} {xs : List Value}, Rels ρ I l xs → ∀ n, Rels ρ I (padTo l n) (xs ++ List.replicate (n - xs.length) undef)
  | [], _, h, n => by cases h; simpa [padTo] using undefs_rel ρ I n
  | v :: l, _, h, n => by
    cases h with | cons _ _ x xs hv hs =>
    cases n with
    | zero => simpa [padTo] using Rels.cons _ _ _ _ hv hs
    | succ n => simpa [padTo] using Rels.cons _ _ _ _ hv (padTo_rel hs n)

theorem LeavesInM.mono' {P : Program} {fn : Func} {tmps : Array Value} {R R' : Ending → World → Prop} (hR : ∀ e w, R e w → R' e w) : ∀ (dl : List Deferred) u w, LeavesInM (FR none) 0 P fn tmps R dl u w → LeavesInM (FR none) 0 P fn tmps R' dl u w := by
  intro dl
  induction dl with
  | nil =>
    intro u w hl
    cases u with
    | run => exact hl
    | returning => obtain ⟨v, h1, h2⟩ := hl; exact ⟨v, h1, hR _ _ h2⟩
    | panicking c => exact hR _ _ hl
  | cons d dl ih =>
    intro u w hl
    obtain ⟨h1, h2⟩ := hl
    refine ⟨h1, ?_⟩
    rcases h2 with ⟨r, w', a1, a2, a3⟩ | ⟨a0, fv, cap, f, args, a1, a2, a3, a5⟩
    · exact .inl ⟨r, w', a1, a2, ih _ _ a3⟩
    · refine .inr ⟨a0, fv, cap, f, args, a1, a2, a3, CallsDIn.mono a5 ?_⟩
      intro e u' w' hq
      cases e with
      | returned v => exact ih _ _ hq
      | panicked c => exact ih _ _ hq
      | outgrown => exact hR _ _ hq

/-- A mark's block is shut: nobody else speaks of it. -/
theorem shut {ρ0 I0 L0 w0 ρ I L w} {b : Nat} (hM : Mod ρ I L w) (hst : Stp ρ0 I0 L0 w0 ρ I L w) (hlo : w0.heap.size ≤ b) (hb : w.heap[b]? = some (.deferred (some []))) (hno : ¬ Own ρ L b) (hI : I b = none) :
    Mod ρ I L { w with heap := w.heap.setIfInBounds b (.deferred none) } ∧ Stp ρ0 I0 L0 w0 ρ I L { w with heap := w.heap.setIfInBounds b (.deferred none) } := by
  have hoth : ∀ c, c ≠ b → (w.heap.setIfInBounds b (.deferred none))[c]? = w.heap[c]? := fun c hc => by simp [Ne.symm hc]
  refine ⟨⟨hM.len, ?_, hM.inj, ?_, hM.sep, hM.glob⟩, ⟨hst.rho, hst.rlen, hst.im, hst.imn, hst.own, hst.os, hst.tape, hst.output, by simpa using hst.size, ?_⟩⟩
  · intro t blk te h1 h2 h3
    obtain ⟨o, h4, h5⟩ := hM.own t blk te h1 h2 h3
    exact ⟨o, (hoth _ fun he => hno ⟨t, te, blk, h1, h2, h3, he⟩).trans h4, h5⟩
  · intro c o hc
    exact (hoth c fun he => by subst he; rw [hI] at hc; cases hc).trans (hM.imm c o hc)
  · intro c hc hn
    exact (hoth c (by omega)).trans (hst.frame c hc hn)

def PendRel (ρ : List (Option TE)) (I : Imm) : Option V → FrameMode → Prop
  | none, .returning => True
  | some v, .panicking [c] => c.recovered = false ∧ c.goexit = false ∧ Rel ρ I v c.v
  | _, _ => False

theorem leave_ok {P : Program} {T : Tab} (hT : TOk P T) {fn : Func} {tm : List V} {tmps : Array Value} {K : Out → List Blk → Prop} {p : Option V} {u : FrameMode} {ds : List DV} {ρ0 I0 L0 w0 ρ I L} (h : Rels ρ I tm tmps.toList) (hk : leaveK T fn tm K p ds L) :
    ∀ {bs : List Nat} {defers : List Deferred} {w}, defers.map (·.target) = bs.map Target.collected → bs.Nodup → (∀ b ∈ bs, w0.heap.size ≤ b ∧ w.heap[b]? = some (.deferred (some [])) ∧ ¬ Own ρ L b ∧ I b = none) →
    Mod ρ I L w → Stp ρ0 I0 L0 w0 ρ I L w → 
    PendRel ρ I p u →
    LeavesInM (FR none) 0 P fn tmps (fun e w' => ∃ o ρ' I' L', K o L' ∧ OutRel ρ' I' o e ∧ Mod ρ' I' L' w' ∧ Stp ρ0 I0 L0 w0 ρ' I' L' w') defers u w
  | [], [], w, _, _, _, hM, hst, hp => by
    cases ds with
    | cons d ds => exact hk.elim
    | nil =>
    simp only [leaveK] at hk
    cases p with
    | none =>
      cases u with
      | returning =>
        simp only at hk
        split at hk
        · rename_i r hr
          rw [forceV_eq] at hk
          obtain ⟨x, h1, h2⟩ := run_results (P := P) hT hM h hr
          exact ⟨x, h1, _, ρ, I, L, hk, h2, hM, hst⟩
        · exact hk.elim
      | run => exact hp.elim
      | panicking => exact hp.elim
    | some v =>
      cases u with
      | panicking ch =>
        cases ch with
        | nil => exact hp.elim
        | cons c ch => cases ch with
          | nil => exact ⟨.pan v, ρ, I, L, hk, hp, hM, hst⟩
          | cons => exact hp.elim
      | run => exact hp.elim
      | returning => exact hp.elim
  | [], _ :: _, _, hm, _, _, _, _, _ => by simp at hm
  | _ :: _, [], _, hm, _, _, _, _, _ => by simp at hm
  | b :: bs, d :: defers, w, hm, hn, hb, hM, hst, hp => by
    simp only [List.map_cons, List.cons.injEq] at hm
    obtain ⟨htar, hm⟩ := hm
    rw [List.nodup_cons] at hn
    obtain ⟨b1, b2, b3, b4⟩ := hb b (List.mem_cons_self ..)
    obtain ⟨m1, m2⟩ := shut hM hst b1 b2 b3 b4
    refine ⟨by cases p <;> cases u <;> first | exact hp.elim | simp, .inl ⟨b, { w with heap := w.heap.setIfInBounds b (.deferred none) }, htar, ?_, ?_⟩⟩
    · show (Instr.takeDeferred b).run P w = .ok [] { w with heap := w.heap.setIfInBounds b (.deferred none) }
      simp [Instr.takeDeferred, getObj, setObj, Sem.run, Sem.run_bind, b2]
    · refine leave_ok hT h hk hm hn.2 (fun c hc => ?_) m1 m2 hp
      obtain ⟨c1, c2, c3, c4⟩ := hb c (List.mem_cons_of_mem _ hc)
      have hne : c ≠ b := fun he => hn.1 (he ▸ hc)
      exact ⟨c1, by simpa [Ne.symm hne] using c2, c3, c4⟩

theorem setPsK_eq {K : List V → Prop} : ∀ {ps : List Nat} {vs tm : List V}, setPsK ps vs K tm ↔ K ((ps.zip vs).foldl (fun tm p => tm.set p.1 p.2) tm)
  | [], vs, tm => by simp [setPsK]
  | p :: ps, [], tm => by simp [setPsK]
  | p :: ps, v :: vs, tm => by simp only [setPsK, setK_eq, setPsK_eq, List.zip_cons_cons, List.foldl_cons]
theorem setPs_rel {ρ I} : ∀ {ps : List Nat} {vs : List V} {xs : List Value} {tm : List V} {tmps : Array Value}, Rels ρ I vs xs → Rels ρ I tm tmps.toList →
    Rels ρ I ((ps.zip vs).foldl (fun tm p => tm.set p.1 p.2) tm) ((ps.zip xs).foldl (fun tmps p => tmps.setIfInBounds p.1 p.2) tmps).toList
  | [], vs, xs, tm, tmps, _, h => by simpa using h
  | p :: ps, [], xs, tm, tmps, hv, h => by cases hv; simpa using h
  | p :: ps, v :: vs, xs, tm, tmps, hv, h => by
    cases hv with | cons _ _ x xs hv hs =>
    simp only [List.zip_cons_cons, List.foldl_cons]
    refine setPs_rel hs ?_
    have := h.set p hv
    simpa using this

/-- A round that a walk may ask for. -/
def YieldS (P : Program) (t : Nat) (Vs : List V) (L : List Blk) (K : Out → List Blk → Prop) : Prop :=
  ∀ ρ I w r (xs : Array Value), Mod ρ I L w → Rels ρ I Vs xs.toList → ∀ te, ρ[t]? = some (some te) → ∃ f tmps asg body, (Instr.yield te.b xs).run P w = .ok (.round te.b f tmps asg body) w ∧
    RoundIn (FR r) 0 P te.b f tmps asg body w (fun e w' => ∃ o ρ' I' L', K o L' ∧ OutRel ρ' I' o e ∧ Mod ρ' I' L' w' ∧ Stp ρ I L w ρ' I' L' w')

theorem run_calleeY {P : Program} {ρ I} {w : World} {tm : List V} {a : Act} (h : Rels ρ I tm a.tmps.toList) {o : Oper} {c : Call} {t : Nat} {Vs : List V} (ho : o.op = .call c) (hc : calleeY tm c = some (t, Vs)) :
    ∃ (te : TE) (xs : Array Value), ρ[t]? = some (some te) ∧ (execOp a.eval o).run P w = (Instr.yield te.b xs).run P w ∧ Rels ρ I Vs xs.toList := by
  unfold calleeY at hc
  split at hc
  · rename_i f hf
    split at hc
    · rename_i t' hv
      cases hc
      have hx := rel_evO h f
      rw [hv] at hx
      generalize hax : a.eval f = X at hx
      cases hx; rename_i te hte
      refine ⟨te, c.args.map a.eval, hte, ?_, ?_⟩
      · simp only [execOp, ho, resolve, hf, hax, Deferred.ofValue, Sem.run_bind, Sem.run_pure, Result.andThen_ok, invoke, Array.empty_append]
      · have := relsMap h c.args.toList
        simpa using this
    · cases hc
  · cases hc

end Go.Vx
