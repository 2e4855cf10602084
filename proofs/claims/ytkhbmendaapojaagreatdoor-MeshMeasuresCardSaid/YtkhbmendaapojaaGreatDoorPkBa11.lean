/- The reckoned conditions suffice. Functions that only compute: contracts on plain data; how a call is met by one. -/
import Derived.Test.YtkhbmendaapojaaGreatDoorPkBa10
set_option linter.unusedSimpArgs false
set_option linter.unusedVariables false
/- The reckoned conditions suffice. -/
namespace Go.Vx
open Go Go.RowKit

theorem callS_of_code {E : Env} (hT0 : TOk E.P E.T) {g : Nat} {fn : Func} {c : Code} (hf : E.P.funcs[g]? = some fn) (hb : fn.body = some c) {args : List V} {L : List Blk} {K : Out → List Blk → Prop}
    (hS : CodeS E.P none c (padTo args fn.ntmps) L [] (finK E.T fn K)) : CallS E.P g args L K := by
  intro ρ I w xs hM hxs
  refine callsIn_wide.1 (callsIn_of_wp_marks (n := 0) (hf) hb trivial ?_)
  have hstart : Rels ρ I (padTo args fn.ntmps) (xs ++ Array.replicate (fn.ntmps - xs.size) undef).toList := by
    have := padTo_rel hxs fn.ntmps
    simpa using this
  refine wpIn_mono (hS w.heap.size ρ I { tmps := xs ++ Array.replicate (fn.ntmps - xs.size) undef, defers := [] } w none trivial hM hstart (DRel.nil ρ I L w)) ?_
  rintro e a' w' ⟨ex, tm', L', ds', ρ', I', hK, hX, hM', hT', hD', hst⟩
  have fin : ∀ (p : Option V) (u : FrameMode), leaveK E.T fn tm' K p ds' L' → PendRel ρ' I' p u →
      LeavesInM (FR none) 0 E.P fn a'.tmps (fun e w' => ∃ o ρ' I' L', K o L' ∧ OutRel ρ' I' o e ∧ Mod ρ' I' L' w' ∧ Stp ρ I L w ρ' I' L' w') a'.defers u w' := by
    intro p u hl hp
    obtain ⟨d1, d2, bs, d3, d4, d5⟩ := hD'
    exact leave_ok (P := E.P) hT0 (fn := fn) hT' hl d3 d4 d5 hM' hst hp
  cases ex with
  | normal => cases e <;> first | exact hX.elim | exact fin none .returning hK trivial
  | ret => cases e <;> first | exact hX.elim | exact fin none .returning hK trivial
  | exit n => exact hK.elim
  | goto n => exact hK.elim
  | pan v =>
    cases e with
    | panic ch =>
      cases ch with
      | nil => exact hX.elim
      | cons c1 ch => cases ch with
        | nil => exact fin (some v) (.panicking [c1]) hK hX
        | cons => exact hX.elim
    | _ => exact hX.elim

/-! ### Regions that draw their order -/
theorem appK_eq0 {α : Type} {K : List α → Prop} {l : List α} {v : α} : appK (fun l _ => K l) l 0 v ↔ K (l ++ [v]) := appK_eq
def ancFrom : List Oper → List Nat → List Nat
  | [], acc => acc
  | o :: os, acc => ancFrom os (acc ++ [ancOf acc o.after.toList 0])
theorem ancOf_bit {acc : List Nat} : ∀ {es : List Edge} {s b : Nat}, Nat.testBit (ancOf acc es s) b = true →
    Nat.testBit s b = true ∨ ∃ e ∈ es, Region.binds .any e = true ∧ (b = e.on ∨ ∃ a, acc[e.on]? = some a ∧ Nat.testBit a b = true)
  | [], s, b, h => .inl h
  | e :: es, s, b, h => by
    simp only [ancOf] at h
    split at h
    · rename_i hb
      rcases ancOf_bit h with h | ⟨e', h1, h2, h3⟩
      · rw [bit_lor, bit_lor, bit_one, nth_eq] at h
        simp only [Bool.or_eq_true, decide_eq_true_eq] at h
        rcases h with (h | h) | h
        · exact .inl h
        · exact .inr ⟨e, by simp, hb, .inl h⟩
        · split at h
          · rename_i a ha; exact .inr ⟨e, by simp, hb, .inr ⟨a, ha, h⟩⟩
          · simp at h
      · exact .inr ⟨e', by simp [h1], h2, h3⟩
    · rcases ancOf_bit h with h | ⟨e', h1, h2, h3⟩
      · exact .inl h
      · exact .inr ⟨e', by simp [h1], h2, h3⟩
theorem backB_ok {i : Nat} : ∀ {es : List Edge}, backB i es = true → ∀ e ∈ es, Region.binds .any e = true → e.on < i
  | [], _, e, he, _ => by simp at he
  | e :: es, h, e', he, hb => by
    simp only [backB] at h
    split at h
    · rename_i hb'
      split at h
      · cases h
      · rename_i hle
        rcases List.mem_cons.1 he with rfl | he
        · have : ¬ i ≤ e'.on := fun hc => by rw [Nat.ble_eq_true_of_le hc] at hle; cases hle
          omega
        · exact backB_ok h e' he hb
    · rename_i hb'
      rcases List.mem_cons.1 he with rfl | he
      · rw [hb] at hb'; cases hb'
      · exact backB_ok h e' he hb

/-- What is reckoned ahead of a region that draws its order. -/
theorem ancK_ok {ops : Array Oper} : ∀ {os : List Oper} {acc : List Nat} {K : List Nat → Prop}, (∃ pre, ops.toList = pre ++ os ∧ pre.length = acc.length) →
    (∀ i o, i < acc.length → ops[i]? = some o → (∀ b a, acc[i]? = some a → Nat.testBit a b = true → ∃ e ∈ o.after.toList, Region.binds .any e = true ∧ (b = e.on ∨ (e.on < i ∧ ∃ a', acc[e.on]? = some a' ∧ Nat.testBit a' b = true))) ∧
      ∀ e ∈ o.after.toList, Region.binds .any e = true → e.on < i) → ancK os acc.length acc K →
    ∃ anl : List Nat, anl.length = ops.size ∧ AncOk ops (fun i => anl.getD i 0) ∧ BackOk ops ∧ K anl
  | [], acc, K, ⟨pre, h1, h2⟩, hinv, h => by
    simp only [ancK] at h
    have hlen : acc.length = ops.size := by rw [← h2]; have := congrArg List.length h1; simp at this; omega
    refine ⟨acc, hlen, ?_, ?_, h⟩
    · intro i o ho b hb
      have hlt : i < acc.length := by have := (Array.getElem?_eq_some_iff.1 ho).1; omega
      have hget : acc[i]? = some (acc.getD i 0) := by simp [List.getD_eq_getElem?_getD, hlt]
      obtain ⟨e, g1, g2, g3⟩ := (hinv i o hlt ho).1 b _ hget hb
      refine ⟨e, g1, g2, g3.imp_right fun ⟨g4, a', g5, g6⟩ => ⟨g4, ?_⟩⟩
      show Nat.testBit (acc.getD e.on 0) b = true
      rw [List.getD_eq_getElem?_getD, g5]; exact g6
    · intro i o ho e he hb
      have hlt : i < acc.length := by have := (Array.getElem?_eq_some_iff.1 ho).1; omega
      exact (hinv i o hlt ho).2 e he hb
  | o :: os, acc, K, ⟨pre, h1, h2⟩, hinv, h => by
    simp only [ancK] at h
    split at h
    · rename_i hback
      simp only [forceN_eq] at h
      rw [appK_eq0] at h
      refine ancK_ok (os := os) (acc := acc ++ [ancOf acc o.after.toList 0]) ⟨pre ++ [o], by simp [h1], by simp [h2]⟩ ?_ (by simpa using h)
      intro i o' hi ho'
      have hold : ∀ j, j < acc.length → (acc ++ [ancOf acc o.after.toList 0])[j]? = acc[j]? := fun j hj => List.getElem?_append_left hj
      by_cases hlt : i < acc.length
      · obtain ⟨g1, g2⟩ := hinv i o' hlt ho'
        refine ⟨fun b a ha hb => ?_, g2⟩
        rw [hold i hlt] at ha
        obtain ⟨e, k1, k2, k3⟩ := g1 b a ha hb
        refine ⟨e, k1, k2, k3.imp_right fun ⟨k4, a', k5, k6⟩ => ⟨k4, a', ?_, k6⟩⟩
        rw [hold _ (by omega)]; exact k5
      · simp at hi
        have : i = acc.length := by omega
        subst this
        have hoo : o' = o := by
          have h3 : ops[acc.length]? = some o := by
            rw [← Array.getElem?_toList, h1, List.getElem?_append_right (by omega)]; simp [h2]
          rw [h3] at ho'; cases ho'; rfl
        subst hoo
        refine ⟨fun b a ha hb => ?_, fun e he hb => backB_ok hback e he hb⟩
        rw [List.getElem?_append_right (Nat.le_refl _)] at ha
        simp at ha; subst ha
        rcases ancOf_bit hb with hb | ⟨e, k1, k2, k3⟩
        · simp at hb
        · refine ⟨e, k1, k2, k3.imp_right fun ⟨a', k5, k6⟩ => ?_⟩
          have hl := (List.getElem?_eq_some_iff.1 k5).1
          exact ⟨hl, a', by rw [hold _ hl]; exact k5, k6⟩
    · exact h.elim

theorem ones_bit (n e : Nat) : Nat.testBit (ones n) e = decide (e < n) := by
  have : ones n = 2 ^ n - 1 := by show (1 <<< n) - 1 = _; rw [Nat.one_shiftLeft]
  rw [this, Nat.testBit_two_pow_sub_one]

/-- The operations from i on, each with what binds it and whether a cut follows it. -/
def ItsOk (ops : Array Oper) (A : Nat → Nat) : List It → Nat → Prop
  | [], i => i = ops.size
  | it :: its, i => ops[i]? = some it.o ∧ it.anc = A i ∧ (it.cut = true → Cut ops A (i + 1)) ∧ ItsOk ops A its (i + 1)

theorem itK_ok {ops : Array Oper} {anl : List Nat} (hlen : anl.length = ops.size) : ∀ {os : List Oper} {bs : List Nat} {i : Nat} {K : List It → Nat → Prop}, ops.toList.drop i = os → anl.drop i = bs → i ≤ ops.size → itK anl.length os bs i K →
    ∃ its M, K its M ∧ ItsOk ops (fun i => anl.getD i 0) its i ∧ ∀ j, i ≤ j → j < ops.size → ∀ e, e < ops.size → Nat.testBit M e = true → Nat.testBit (anl.getD j 0) e = true
  | [], bs, i, K, h1, h2, hi, h => by
    simp only [itK] at h
    have hi' : i = ops.size := by
      have := congrArg List.length h1
      simp at this; omega
    refine ⟨[], _, h, hi', fun j hj1 hj2 => by omega⟩
  | o :: os, [], i, K, h1, h2, hi, h => by
    exfalso
    have e1 := congrArg List.length h1
    have e2 := congrArg List.length h2
    simp at e1 e2
    omega
  | o :: os, a :: bs, i, K, h1, h2, hi, h => by
    simp only [itK] at h
    have e1 := congrArg List.length h1
    simp at e1
    have hlt : i < ops.size := by omega
    have hd1 : ops.toList.drop (i + 1) = os := by
      have : ops.toList.drop i = ops.toList[i]'(by simpa using hlt) :: ops.toList.drop (i + 1) := List.drop_eq_getElem_cons (by simpa using hlt)
      rw [h1] at this; injection this with _ h; exact h.symm
    have ho : ops[i]? = some o := by
      have : ops.toList.drop i = ops.toList[i]'(by simpa using hlt) :: ops.toList.drop (i + 1) := List.drop_eq_getElem_cons (by simpa using hlt)
      rw [h1] at this; injection this with h _; simp [hlt]; simpa using h.symm
    have hlt2 : i < anl.length := by omega
    have hd2 : anl.drop (i + 1) = bs := by
      have : anl.drop i = anl[i] :: anl.drop (i + 1) := List.drop_eq_getElem_cons hlt2
      rw [h2] at this; injection this with _ h; exact h.symm
    have ha : anl.getD i 0 = a := by
      have : anl.drop i = anl[i] :: anl.drop (i + 1) := List.drop_eq_getElem_cons hlt2
      rw [h2] at this; injection this with h _
      rw [List.getD_eq_getElem?_getD]; simp [hlt2, h]
    obtain ⟨its, M, h3, h4, h5⟩ := itK_ok hlen hd1 hd2 (by omega) h
    simp only [forceN_eq] at h3
    have hM : ∀ j, i ≤ j → j < ops.size → ∀ e, e < ops.size → Nat.testBit (Nat.land M a) e = true → Nat.testBit (anl.getD j 0) e = true := by
      intro j hj1 hj2 e he hb
      rw [bit_land] at hb
      simp only [Bool.and_eq_true] at hb
      by_cases hj : j = i
      · subst hj; rw [ha]; exact hb.2
      · exact h5 j (by omega) hj2 e he hb.1
    split at h3
    · rename_i hcut
      refine ⟨_, _, h3, ⟨ho, ha.symm, fun _ => ?_, h4⟩, hM⟩
      intro j hj1 hj2 e he
      refine h5 j hj1 hj2 e (by omega) ?_
      have := Nat.eq_of_beq_eq_true hcut
      have := congrArg (fun x => Nat.testBit x e) this
      simp only [bit_land, ones_bit, he, decide_true, Bool.and_true] at this
      exact this
    · exact ⟨_, _, h3, ⟨ho, ha.symm, (fun hc => by cases hc), h4⟩, hM⟩

theorem catK_eq {K : List Blk → Nat → Prop} {x : List Blk} : ∀ {l : List Blk} {n : Nat}, catK K x l n ↔ K (l ++ x) (n + l.length)
  | [], n => Iff.rfl
  | b :: l, n => by simp only [catK]; rw [catK_eq]; simp [Nat.add_comm, Nat.add_left_comm]
theorem roomN_eq : ∀ its : List It, ∃ n, roomN its = List.replicate n .dead
  | [] => ⟨0, rfl⟩
  | it :: its => by
    obtain ⟨n, hn⟩ := roomN_eq its
    simp only [roomN]
    split
    · exact ⟨1, rfl⟩
    · exact ⟨n + 1, by rw [hn]; rfl⟩
theorem roomK_ok {its : List It} {L : List Blk} {K : List Blk → Nat → Prop} (h : roomK its L K) : ∃ n, K (L ++ List.replicate n .dead) L.length := by
  unfold roomK at h
  split at h
  · rw [catK_eq] at h
    obtain ⟨n, hn⟩ := roomN_eq its
    rw [hn, Nat.zero_add] at h
    exact ⟨n, h⟩
  · rw [len_eq] at h
    exact ⟨0, by simpa using h⟩

def Good (E : Env) (n : Nat) : Prop :=
  (∀ rt (ops : Array Oper) (i : Nat) tm L ds K, evOps E rt n ops.toList (ops.toList.drop i) tm L ds K → ∀ lo ρ I (a : Act) w r (Q : Exit → Act → World → Prop), RndRel ρ rt r → Mod ρ I L w → Rels ρ I tm a.tmps.toList → DRel lo ρ I L w ds a.defers →
    (∀ e a' w', Post lo K ρ I L w e a' w' → Q e a' w') → wpOpsIn (FR r) 0 E.P ops Q (List.range' i (ops.size - i)) a w) ∧
  (∀ g args L K, evCall E n g args L K → CallS E.P g args L K) ∧
  (∀ rt c tm L ds K, vc E rt n c tm L ds K → CodeS E.P rt c tm L ds K) ∧
  (∀ rt (ops : Array Oper) A its (i : Nat) tm L ds K, AncOk ops A → BackOk ops → ItsOk ops A its i → Cut ops A i → evAny E rt n ops.toList its i tm L ds K →
    ∀ lo ρ I (a : Act) w r (Q : Exit → Act → World → Prop), RndRel ρ rt r → Mod ρ I L w → Rels ρ I tm a.tmps.toList → DRel lo ρ I L w ds a.defers → (∀ e a' w', Post lo K ρ I L w e a' w' → Q e a' w') →
    ∀ l, Lst ops i l → wpAnyIn (FR r) 0 E.P .any ops Q (ops.size - i) l a w) ∧
  (∀ rt (ops : Array Oper) A its (k0 base : Nat) tm0 L0 acc tm L ds K, AncOk ops A → BackOk ops → ItsOk ops A its (k0 + acc.length) → RecsOk E.P ops A k0 base tm0 L0 acc tm L →
    evRecs E rt n ops.toList its (k0 + acc.length) (base + acc.length) (acc.map Rec.b) tm L ds K →
    ∀ lo ρ I (a : Act) w r (Q : Exit → Act → World → Prop), RndRel ρ rt r → Mod ρ I L0 w → Rels ρ I tm0 a.tmps.toList → DRel lo ρ I L0 w ds a.defers → (∀ t, base ≤ t → t < ρ.length → ρ[t]? = some none) → (∀ e a' w', Post lo K ρ I L0 w e a' w' → Q e a' w') →
    ∀ l, Lst ops k0 l → wpAnyIn (FR r) 0 E.P .any ops Q (ops.size - k0) l a w) ∧
  (∀ t args L K, evYield E n t args L K → YieldS E.P t args L K)

theorem RndRel.mono {ρ ρ' rt r} (hρ : TEs.le ρ ρ') (h : RndRel ρ rt r) : RndRel ρ' rt r := by
  cases rt <;> cases r <;> first | exact h | (obtain ⟨te, h1, h2⟩ := h; exact ⟨te, hρ _ _ h1, h2⟩)

theorem ExRel.inv_normal {ρ I ex} (h : ExRel ρ I ex .normal) : ex = .normal := by cases ex <;> first | rfl | exact h.elim

set_option maxHeartbeats 4000000 in
theorem good {E : Env} (hE : EnvOk E) (n : Nat) : Good E n := by
  induction n with
  | zero => exact ⟨fun _ _ _ _ _ _ _ h => (ev_zero.1 _ _ _ _ _ _ _ h).elim, fun _ _ _ _ h => (ev_zero.2.2.2.1 _ _ _ _ h).elim, fun _ _ _ _ _ _ h => (ev_zero.2.2.2.2.2 _ _ _ _ _ _ h).elim, fun _ _ _ _ _ _ _ _ _ _ _ _ _ h => (ev_zero.2.1 _ _ _ _ _ _ _ _ h).elim,
      fun _ _ _ _ _ _ _ _ _ _ _ _ _ _ _ _ _ h => (ev_zero.2.2.1 _ _ _ _ _ _ _ _ _ _ h).elim, fun _ _ _ _ h => (ev_zero.2.2.2.2.1 _ _ _ _ h).elim⟩
  | succ n ih =>
    obtain ⟨ih1, ih2, ih3, ih4, ih5, ih6⟩ := ih
    refine ⟨?_, ?_, ?_, ?_, ?_, ?_⟩
    · -- the operations of a region
      intro rt ops i tm L ds K h lo ρ I a w r Q hr hM hT hD hQ
      by_cases hi : i < ops.size
      · have hdrop : ops.toList.drop i = ops[i] :: ops.toList.drop (i + 1) := by
          rw [List.drop_eq_getElem_cons (by simpa using hi)]; simp
        have hrange : List.range' i (ops.size - i) = i :: List.range' (i + 1) (ops.size - (i + 1)) := by
          rw [show ops.size - i = (ops.size - (i + 1)) + 1 by omega, List.range'_succ]
        have hget : ops[i]? = some ops[i] := by simp [hi]
        generalize ops[i] = o at hdrop hget
        rw [hdrop] at h
        rw [hrange]
        simp only [evOps_succ] at h
        rw [wpOpsIn_cons]
        refine evStep_ok hE ih2 ih6 hget h hM hT hD hQ ?_
        intro tm' L' ρ' I' a' w' h1 h2 h3 h4 h5
        exact ih1 rt ops (i + 1) tm' L' ds K h1 lo ρ' I' a' w' r Q (hr.mono h5.rho) h2 h3 h4 (fun e a'' w'' hp => hQ e a'' w'' (hp.step h5))
      · have hdrop : ops.toList.drop i = [] := List.drop_eq_nil_of_le (by simp; omega)
        rw [hdrop] at h
        rw [show ops.size - i = 0 by omega]
        simp only [evOps_succ] at h
        exact hQ _ _ _ ⟨.normal, tm, L, ds, ρ, I, h, trivial, hM, hT, hD, Stp.refl _ _ _ _⟩
    · -- a call
      intro g args L K h
      simp only [evCall_succ] at h
      split at h
      · rename_i fn hfn
        split at h
        · rename_i c hc
          exact callS_of_code hE.T (hE.inl g fn hfn) hc (ih3 none c _ L [] _ (forceL_eq.1 h))
        · exact h.elim
      · exact h
    · -- code
      intro rt c tm L ds K h
      cases c with
      | skip =>
        intro lo ρ I a w r hr hM hT hD
        exact wpIn_skip ⟨.normal, tm, L, ds, ρ, I, h, trivial, hM, hT, hD, Stp.refl _ _ _ _⟩
      | label l =>
        intro lo ρ I a w r hr hM hT hD
        exact wpIn_label ⟨.normal, tm, L, ds, ρ, I, h, trivial, hM, hT, hD, Stp.refl _ _ _ _⟩
      | region id ops draw =>
        cases draw with
        | true =>
          intro lo ρ I a w r hr hM hT hD
          refine wpIn_region_any hE.mixed ?_
          simp only [vc_succ] at h
          obtain ⟨anl, a1, a2, a3, h⟩ := ancK_ok (ops := ops) (os := ops.toList) (acc := []) ⟨[], by simp, rfl⟩ (fun i o hi => by simp at hi) h
          rw [len_eq] at h
          obtain ⟨its, M, h, a4, _⟩ := itK_ok a1 (i := 0) (by simp) (by simp) (Nat.zero_le _) h
          obtain ⟨m1, m2⟩ := hM.below (w' := { w with drawn := w.drawn + 1 }) ⟨rfl, rfl, rfl, Nat.le_refl _, fun _ _ => rfl⟩
          have := ih4 rt ops _ its 0 tm L ds K a2 a3 a4 (fun i _ _ e he => by omega) h lo ρ I a { w with drawn := w.drawn + 1 } r (Post lo K ρ I L w) hr m1 hT (hD.step m2) (fun e a' w' hp => hp.step m2) _ none_done
          exact this
        | false =>
          intro lo ρ I a w r hr hM hT hD
          refine wpIn_region ?_
          simp only [vc_succ] at h
          have := ih1 rt ops 0 tm L ds K h lo ρ I a w r _ hr hM hT hD (fun e a' w' hp => hp)
          rw [List.range_eq_range']
          exact this
      | seq x y =>
        have hx := ih3 rt x tm L ds _ h
        intro lo ρ I a w r hr hM hT hD
        refine wpIn_seq (wpIn_mono (hx lo ρ I a w r hr hM hT hD) ?_)
        rintro e a' w' ⟨ex, tm', L', ds', ρ', I', hK, hX, hM', hT', hD', hst⟩
        cases e with
        | normal =>
          have := hX.inv_normal; subst this
          refine wpIn_mono (ih3 rt y tm' L' ds' K hK lo ρ' I' a' w' r (hr.mono hst.rho) hM' hT' hD') ?_
          intro e2 a2 w2 hp
          exact Post.step hst hp
        | _ =>
          cases ex <;> first
            | exact hX.elim
            | exact ⟨_, tm', L', ds', ρ', I', hK, hX, hM', hT', hD', hst⟩
      | cond x c1 c2 =>
        simp only [vc_succ] at h
        split at h
        · rename_i t ht
          intro lo ρ I a w r hr hM hT hD
          have hx := rel_evO hT x
          rw [ht] at hx
          refine wpIn_cond hx.boolInv ?_
          split at h
          · rename_i d
            have hd : a.tmps.getD d undef = .bool t := hx.boolInv
            simp only [setK_eq] at h
            cases t with
            | true => exact ih3 rt c1 _ L ds K h lo ρ I a w r hr hM (setBool_rel hT hd) hD
            | false => exact ih3 rt c2 _ L ds K h lo ρ I a w r hr hM (setBool_rel hT hd) hD
          · cases t with
            | true => exact ih3 rt c1 tm L ds K h lo ρ I a w r hr hM hT hD
            | false => exact ih3 rt c2 tm L ds K h lo ρ I a w r hr hM hT hD
        · exact h.elim
      | block id body =>
        have hx := ih3 rt body tm L ds _ h
        intro lo ρ I a w r hr hM hT hD
        refine wpIn_block (wpIn_mono (hx lo ρ I a w r hr hM hT hD) ?_)
        rintro e a' w' ⟨ex, tm', L', ds', ρ', I', hK, hX, hM', hT', hD', hst⟩
        cases e with
        | exit j =>
          cases ex with
          | exit j' =>
            have : j' = j := hX
            subst this
            simp only at hK
            split at hK
            · rename_i hj
              have := natEq_eq hj
              simp only [Exit.inBlock, this, if_true]
              exact ⟨.normal, tm', L', ds', ρ', I', hK, trivial, hM', hT', hD', hst⟩
            · rename_i hj
              have hne : ¬ j' = id := fun he => by rw [he] at hj; simp [natEq] at hj
              simp only [Exit.inBlock, hne, if_false]
              exact ⟨.exit j', tm', L', ds', ρ', I', hK, rfl, hM', hT', hD', hst⟩
          | _ => exact hX.elim
        | _ =>
          cases ex <;> first
            | exact hX.elim
            | exact ⟨_, tm', L', ds', ρ', I', hK, hX, hM', hT', hD', hst⟩
      | loop body => exact h
      | rangeFunc g ps asg body =>
        simp only [vc_succ] at h
        split at h
        · rename_i f caps hg
          split at h
          · rename_i hok har
            rw [appK_eq, Nat.zero_add] at h
            have hcall := ih2 _ _ _ _ h
            intro lo ρ I a w r hr hM hT hD
            exact rangeFunc_ok (fun args w => hE.ok f hok args w) hg har hcall hr hM hT hD
          · exact h.elim
        · exact h.elim
      | exit id =>
        intro lo ρ I a w r hr hM hT hD
        exact wpIn_exit ⟨.exit id, tm, L, ds, ρ, I, h, rfl, hM, hT, hD, Stp.refl _ _ _ _⟩
      | scope body =>
        have hx := ih3 rt body tm L ds _ h
        intro lo ρ I a w r hr hM hT hD
        refine wpIn_scope (wpIn_mono (hx lo ρ I a w r hr hM hT hD) ?_)
        rintro e a' w' ⟨ex, tm', L', ds', ρ', I', hK, hX, hM', hT', hD', hst⟩
        cases e <;> cases ex <;> first
          | exact hX.elim
          | exact hK.elim
          | exact ⟨_, tm', L', ds', ρ', I', hK, hX, hM', hT', hD', hst⟩
      | goto l =>
        intro lo ρ I a w r hr hM hT hD
        exact wpIn_goto ⟨.goto l, tm, L, ds, ρ, I, h, rfl, hM, hT, hD, Stp.refl _ _ _ _⟩
      | ret =>
        intro lo ρ I a w r hr hM hT hD
        exact wpIn_ret ⟨.ret, tm, L, ds, ρ, I, h, trivial, hM, hT, hD, Stp.refl _ _ _ _⟩
      | refuse => exact h
    · -- from a cut on
      intro rt ops A its i tm L ds K hA hB hI hcut h lo ρ I a w r Q hr hM hT hD hQ l hl
      cases its with
      | nil =>
        simp only [evAny_succ] at h
        have : i = ops.size := hI
        subst this
        exact all_done (hQ _ _ _ ⟨.normal, tm, L, ds, ρ, I, h, trivial, hM, hT, hD, Stp.refl _ _ _ _⟩) l hl
      | cons it rest =>
        simp only [evAny_succ] at h
        split at h
        · rename_i hc
          obtain ⟨i1, i2, i3, i4⟩ := hI
          have hlt := (Array.getElem?_eq_some_iff.1 i1).1
          refine one_next hA hB (by omega) (i3 hc) ?_ l hl
          refine evStep_ok hE ih2 ih6 i1 h hM hT hD hQ ?_
          intro tm' L' ρ' I' a' w' h1 h2 h3 h4 h5 l' hl'
          exact ih4 rt ops A rest (i + 1) tm' L' ds K hA hB i4 (i3 hc) h1 lo ρ' I' a' w' r Q (hr.mono h5.rho) h2 h3 h4 (fun e a'' w'' hp => hQ e a'' w'' (hp.step h5)) l' hl'
        · obtain ⟨m, h⟩ := roomK_ok h
          obtain ⟨m1, m2⟩ := hM.pad m
          have h' : evRecs E rt n ops.toList (it :: rest) (i + ([] : List Rec).length) (L.length + ([] : List Rec).length) (([] : List Rec).map Rec.b) tm (L ++ List.replicate m .dead) ds K := h
          refine ih5 rt ops A (it :: rest) i L.length tm (L ++ List.replicate m .dead) [] tm _ ds K hA hB hI ⟨rfl, rfl⟩ h' lo _ I a w r Q (hr.mono m2.rho) m1 (hT.mono m2.rho m2.im) (hD.step m2) ?_ (fun e a' w' hp => hQ e a' w' (hp.step m2)) l hl
          intro t ht1 ht2
          have hlen := hM.len
          rw [List.getElem?_append_right (by omega)]
          simp at ht2
          rw [List.getElem?_replicate]
          simp; omega
    · -- between cuts
      intro rt ops A its k0 base tm0 L0 acc tm L ds K hA hB hI hR h lo ρ I a w r Q hr hM hT hD hfree hQ l hl
      cases its with
      | nil => simp only [evRecs_succ] at h
      | cons it rest =>
        simp only [evRecs_succ] at h
        obtain ⟨i1, i2, i3, i4⟩ := hI
        have hlt := (Array.getElem?_eq_some_iff.1 i1).1
        obtain ⟨q, q1, q2, q3, h⟩ := evRec1_ok hE i1 h
        rw [forceRB_eq, okB_eq] at h
        split at h
        · rename_i hok
          rw [i2] at hok
          have hR' : RecsOk E.P ops A k0 base tm0 L0 (q :: acc) (putsL tm q.ws) (putsL L q.up) := ⟨tm, L, hR, q1, rfl, rfl, q2, q3, hok⟩
          split at h
          · rename_i hc
            refine recs_next hA hB hR' (by simp only [List.length_cons]; omega) (by have := i3 hc; rwa [List.length_cons, ← Nat.add_assoc]) hM hT hfree ?_ l hl
            intro ρ' I' a' w' m1 m2 m3 m4 l' hl'
            rw [List.length_cons, ← Nat.add_assoc] at hl' ⊢
            exact ih4 rt ops A rest (k0 + acc.length + 1) _ _ ds K hA hB i4 (i3 hc) h lo ρ' I' a' w' r Q (hr.mono m4.rho) m1 m2 (by rw [m3]; exact hD.step m4) (fun e a'' w'' hp => hQ e a'' w'' (hp.step m4)) l' hl'
          · exact ih5 rt ops A rest k0 base tm0 L0 (q :: acc) _ _ ds K hA hB (by rw [List.length_cons, ← Nat.add_assoc]; exact i4) hR' (by rw [List.length_cons, ← Nat.add_assoc, ← Nat.add_assoc]; exact h) lo ρ I a w r Q hr hM hT hD hfree hQ l hl
        · exact h.elim
    · -- a round
      intro t args L K h
      exact yield_ok (fun rt c tm L ds K h => ih3 rt c tm L ds K h) h

/-! ### A table held against the program -/
def descB : TypeDesc → Ty → Bool
  | .bool, .bool => true
  | .int k, .int k' => ikEq k k'
  | .string, .str => true
  | .pointer e, .ptr e' => natEq e e'
  | .slice e, .slice e' => natEq e e'
  | .array n e, .array n' e' => natEq n n' && natEq e e'
  | .struct fs, .struct fs' => fsB fs.toList fs'
  | .map k e, .map k' e' => natEq k k' && natEq e e'
  | .func .., .func => true
  | .interface _, .iface => true
  | _, _ => false
where fsB : List Field → List (Nat × Nat) → Bool
  | [], [] => true
  | f :: fs, (o, t) :: gs => natEq f.offset o && natEq f.type t && fsB fs gs
  | _, _ => false
theorem fsB_eq : ∀ {fs : List Field} {gs : List (Nat × Nat)}, descB.fsB fs gs = true → fs.map (fun f => (f.offset, f.type)) = gs
  | [], [], _ => rfl
  | [], _ :: _, h => by simp [descB.fsB] at h
  | _ :: _, [], h => by simp [descB.fsB] at h
  | f :: fs, (o, t) :: gs, h => by
    simp only [descB.fsB, Bool.and_eq_true] at h
    simp [natEq_eq h.1.1, natEq_eq h.1.2, fsB_eq h.2]
theorem descB_ok {d : TypeDesc} {y : Ty} (h : descB d y = true) : DescOk d y := by
  cases d <;> cases y <;> simp [descB, DescOk] at h ⊢ <;> first
    | exact ikEq_eq h | exact natEq_eq h | exact ⟨natEq_eq h.1, natEq_eq h.2⟩ | exact fsB_eq h
def zeroB : List V → List Value → Bool
  | [], [] => true
  | v :: l, x :: xs => (match v, x with
    | .int k n, .int k' m => ikEq k k' && decide (n = m)
    | .bool a, .bool b => a == b
    | .str [], .string s => s.data.toList.isEmpty
    | .nilPtr, .pointer none => true
    | .nilSl, .slice none 0 0 => true
    | .nilMap, .map none => true
    | .nilFunc, .nilFunc => true
    | .nilIface, .nilIface => true
    | _, _ => false) && zeroB l xs
  | _, _ => false
theorem zeroB_ok {ρ I} : ∀ {l : List V} {xs : List Value}, zeroB l xs = true → Rels ρ I l xs
  | [], [], _ => .nil
  | [], _ :: _, h => by simp [zeroB] at h
  | _ :: _, [], h => by simp [zeroB] at h
  | v :: l, x :: xs, h => by
    simp only [zeroB, Bool.and_eq_true] at h
    refine .cons _ _ _ _ ?_ (zeroB_ok h.2)
    have h1 := h.1
    split at h1
    · simp at h1; have := ikEq_eq h1.1; obtain ⟨_, rfl⟩ := h1; subst this; exact .int _ _
    · simp at h1; subst h1; exact .bool _
    · rename_i s; exact .str s _ (by simpa using h1)
    all_goals first | constructor | cases h1
def checkTy (P : Program) (t : Nat) (i : TyI) : Bool :=
  match P.info? t, P.underlying t with
  | some info, some d => natEq info.size i.size && (natEq info.bytes i.bytes && (descB d i.ty && ((match info.zero with
      | some z => (natEq z.cells.size i.size && zeroB i.zero z.cells.toList) && (match i.ty with
        | .int _ | .bool | .str => z.oneCell'
        | _ => true)
      | none => false) && (match i.eq with
      | true => !P.eqGuardType P.depth t && (match d with
        | .struct fs => !P.stoodInHeld t && fs.toList.all fun f => f.name != "_"
        | _ => true)
      | false => true))))
  | _, _ => false
theorem checkTy_ok {P : Program} {t : Nat} {i : TyI} (h : checkTy P t i = true) : TyOk P t i := by
  unfold checkTy at h
  split at h
  · rename_i info d h1 h2
    simp only [Bool.and_eq_true] at h
    obtain ⟨a1, a2, a3, a4, a5⟩ := h
    refine ⟨⟨info, d, h1, h2, natEq_eq a1, natEq_eq a2, descB_ok a3, ?_, ?_⟩, ?_⟩
    rotate_left 2
    · split at a4
      · rename_i z hz
        simp only [Bool.and_eq_true] at a4
        have a6 := a4.2
        split <;> try trivial
        all_goals
          rename_i hty
          rw [hty] at a6
          intro info' z' e1 e2
          rw [h1] at e1; cases e1
          rw [hz] at e2; cases e2
          exact a6
      · cases a4
    · split at a4
      · rename_i z hz
        simp only [Bool.and_eq_true] at a4
        exact ⟨z, hz, natEq_eq a4.1.1, fun ρ I => zeroB_ok a4.1.2⟩
      · cases a4
    · intro he
      rw [he] at a5
      simp only [Bool.and_eq_true, Bool.not_eq_true'] at a5
      refine ⟨a5.1, ?_⟩
      cases d <;> try trivial
      have h3 := a5.2
      simp only [Bool.and_eq_true, Bool.not_eq_true', List.all_eq_true] at h3
      exact ⟨h3.1, fun f hf => by have := h3.2 f hf; simpa using this⟩
  · cases h
theorem tok_of_check (P : Program) (T : Tab) (n : Nat) (h : (List.range n).all (fun t => match (T t).ty.known with | true => checkTy P t (T t) | false => true) = true) (hn : ∀ t, n ≤ t → (T t).ty = .other) : TOk P T := by
  intro t ht
  by_cases hlt : t < n
  · have := List.all_eq_true.1 h t (List.mem_range.2 hlt)
    have hk : (T t).ty.known = true := by cases hy : (T t).ty <;> simp [hy, Ty.known] at ht ⊢
    rw [hk] at this
    exact checkTy_ok this
  · rw [hn t (by omega)] at ht; exact ht.elim
/-- The functions that can be entered. -/
def okFn (P : Program) (g : Nat) : Bool :=
  match P.funcs[g]? with
  | some fn => fn.body.isSome && !(fn.name == "runtime.NumGoroutine")
  | none => false
theorem okFn_ok {P : Program} {g : Nat} (h : okFn P g = true) (args : Array Value) (w : World) : (callFunc g args).run P w = .ok (.enter g args) w := by
  unfold okFn at h
  split at h
  · rename_i fn hf
    simp only [Bool.and_eq_true, Bool.not_eq_true'] at h
    have h2 : fn.body.isNone = false := by cases hb : fn.body <;> simp [hb] at h ⊢
    simp only [callFunc, Sem.run_bind, run_program, Result.andThen_ok, hf, h.2, h2, Bool.false_eq_true, if_false, Sem.run_pure]
  · cases h
def inNats : List Nat → Nat → Bool
  | [], _ => false
  | x :: l, n => match natEq x n with
    | true => true
    | false => inNats l n

/-- Functions to be walked through where they are called. -/
def lookF : List (Nat × Func) → Nat → Option Func
  | [], _ => none
  | (k, f) :: l, g => match Nat.beq k g with
    | true => some f
    | false => lookF l g
def AllF (P : Program) : List (Nat × Func) → Prop
  | [] => True
  | (k, f) :: l => P.funcs[k]? = some f ∧ AllF P l
theorem lookF_ok {P : Program} : ∀ {l : List (Nat × Func)}, AllF P l → ∀ {g : Nat} {fn : Func}, lookF l g = some fn → P.funcs[g]? = some fn
  | [], _, _, _, h => by simp [lookF] at h
  | (k, f) :: l, ha, g, fn, h => by
    simp only [lookF] at h
    split at h
    · rename_i hk; cases h; rw [← Nat.eq_of_beq_eq_true hk]; exact ha.1
    · exact lookF_ok ha.2 h

end Go.Vx
/- Functions that only compute: contracts on plain data; how a call is met by one. -/
namespace Go.Vx
open Go Go.RowKit

/-- A contract on plain data out of a call's walk. -/
theorem Pure.of_callS {P f Vs} {R : Out → Prop} (h : CallS P f Vs [] (fun o L => R (sealO L o))) : Pure P f Vs R := by
  intro I w xs hG hI hxs
  have hM : Mod [] I [] w := ⟨rfl, fun t b te h1 => by simp at h1, fun t _ b _ te _ h1 => by simp at h1, hI, fun b hb => by obtain ⟨t, te, blk, h1, _⟩ := hb; simp at h1, hG⟩
  refine (h [] I w xs hM hxs).mono ?_
  rintro e w' ⟨o, ρ', I', L', hR, hO, hM', hst⟩
  have hno : ∀ b, ¬ Own [] [] b := fun b hb => by obtain ⟨t, te, blk, h1, _⟩ := hb; simp at h1
  obtain ⟨k1, k2, k3, k4, _⟩ := hM'.kill (List.range L'.length)
  have hrel : ∀ v x, Rel ρ' I' v x → Rel [] (immKill ρ' I' L' (List.range L'.length) w') (sealV 6 L' v) x := fun v x hr =>
    seal_rel hM' k1 6 v x hr (fun t ht te blk h1 h2 h3 => k4 t (List.mem_range.2 (List.getElem?_eq_some_iff.1 h1).1) te blk h1 h2 h3)
  refine ⟨sealO L' o, _, hR, ?_, k2, Imm.le_trans hst.im k1, ?_, ⟨hst.os, hst.tape, hst.output, hst.size, fun b hb => hst.frame b hb (hno b)⟩⟩
  · cases o with
    | ret v => cases e <;> first | exact hrel v _ hO | exact hO.elim
    | pan v =>
      cases e with
      | panicked ch =>
        cases ch with
        | nil => exact hO.elim
        | cons c ch => cases ch with
          | nil => exact ⟨hO.1, hO.2.1, hrel v _ hO.2.2⟩
          | cons => exact hO.elim
      | returned => exact hO.elim
      | outgrown => exact hO.elim
  · intro b ob hb
    rcases k3 b ob hb with h1 | ⟨h1, _⟩
    · rcases hst.imn b ob h1 with h2 | h2 | h2
      · exact .inl h2
      · exact absurd h2 (hno b)
      · exact .inr h2
    · rcases hst.own b h1 with h2 | h2
      · exact absurd h2 (hno b)
      · exact .inr h2

/-- A call met by a contract; what was handed over is not written again. -/
theorem callS_pure {P f Vs L K} {R : Out → Prop} (h : Pure P f (sealL L Vs) R) (hk : ∀ o, R o → K o (killL L (tagsL L Vs))) : CallS P f Vs L K := by
  intro ρ I w xs hM hxs
  obtain ⟨k1, k2, k3, k4, k5, k6⟩ := hM.kill (tagsL L Vs)
  refine (h _ w xs k5.glob k2 (sealL_rel hM k1 hxs k4)).mono ?_
  rintro e w' ⟨o, I', hR, hO, hI', hle, hnew, hb⟩
  obtain ⟨m1, m2⟩ := k5.below hb
  have hsep : ∀ b o, I' b = some o → ¬ Own ρ (killL L (tagsL L Vs)) b := by
    intro b ob hb' hc
    rcases hnew b ob hb' with h1 | h1
    · have := k5.sep b hc; rw [this] at h1; cases h1
    · obtain ⟨t, te, blk, a1, a2, a3, a4⟩ := hc
      have := k5.blk_lt a1 a2 a3; omega
  have hM2 : Mod ρ I' (killL L (tagsL L Vs)) w' := ⟨m1.len, fun t b te h1 h2 h3 => by
      obtain ⟨o, h4, h5⟩ := m1.own t b te h1 h2 h3
      exact ⟨o, h4, h5.mono (TEs.le_refl _) hle⟩, m1.inj, hI', fun b hb' => by
      cases hc : I' b with
      | none => rfl
      | some ob => exact absurd hb' (hsep b ob hc), m1.glob.mono hle⟩
  refine ⟨o, ρ, I', _, hk o hR, hO.mono (TEs.nil_le _) (Imm.le_refl _), hM2, k6.trans ⟨TEs.le_refl _, Nat.le_refl _, hle, fun b ob h1 => ?_, fun b hb' => .inl hb', hb.os, hb.tape, hb.output, hb.size, fun b hlt _ => hb.block b hlt⟩⟩
  rcases hnew b ob h1 with h2 | h2
  · exact .inl h2
  · exact .inr (.inr h2)

/-- A call met by a contract whose result leads to no memory: all goes on as it was. -/
theorem callS_flat {P f Vs L K} {R : Out → Prop} (h : Pure P f (sealL L Vs) R) (hk : ∀ o, R o → flatO o = true ∧ K o L) : CallS P f Vs L K := by
  intro ρ I w xs hM hxs
  obtain ⟨k1, k2, k3, k4, k5, k6⟩ := hM.kill (tagsL L Vs)
  refine (h _ w xs k5.glob k2 (sealL_rel hM k1 hxs k4)).mono ?_
  rintro e w' ⟨o, I', hR, hO, hI', hle, hnew, hb⟩
  obtain ⟨m1, m2⟩ := hM.below hb
  obtain ⟨hf, hK⟩ := hk o hR
  refine ⟨o, ρ, I, L, hK, ?_, m1, m2⟩
  refine OutRel.mono (TEs.nil_le ρ) (Imm.le_refl I) ?_
  cases o with
  | ret v => cases e <;> first | exact flat_rel 6 v _ hf hO | exact hO.elim
  | pan v =>
    cases e with
    | panicked ch =>
      cases ch with
      | nil => exact hO.elim
      | cons c ch => cases ch with
        | nil => exact ⟨hO.1, hO.2.1, flat_rel 6 v _ hf hO.2.2⟩
        | cons => exact hO.elim
    | returned => exact hO.elim
    | outgrown => exact hO.elim

/-- The same for a walk's goal: a result that leads to no memory; one that may. -/
theorem callF {P f Vs L K Ws} {R : Out → Prop} (h : Pure P f Ws R) (hs : sealL L Vs = Ws) (hk : ∀ o, R o → flatO o = true ∧ K o L) : CallV P f Vs L K := callS_flat (hs ▸ h) hk
theorem callP {P f Vs L K Ws} {R : Out → Prop} (h : Pure P f Ws R) (hs : sealL L Vs = Ws) (hk : ∀ o, R o → K o (killL L (tagsL L Vs))) : CallV P f Vs L K := callS_pure (hs ▸ h) hk
/-- .. with one result. -/
theorem callF1 {P f Vs L K Ws v} (h : Pure P f Ws (fun o => o = .ret v)) (hs : sealL L Vs = Ws) (hf : flatV 6 v = true) (hk : K (.ret v) L) : CallV P f Vs L K := callF h hs fun _ ho => by subst ho; exact ⟨hf, hk⟩
theorem callP1 {P f Vs L K Ws v} (h : Pure P f Ws (fun o => o = .ret v)) (hs : sealL L Vs = Ws) (hk : K (.ret v) (killL L (tagsL L Vs))) : CallV P f Vs L K := callP h hs fun _ ho => by subst ho; exact hk
/-- In a region that draws its order. -/
theorem callD {P f Vs L v Ws} (h : Pure P f Ws (fun o => o = .ret v)) (hs : sealL L Vs = Ws) (hf : flatV 6 v = true ∨ tagsL L Vs = []) : CallDV P f Vs L v [] := ⟨hs ▸ h, .inl ⟨hf, rfl⟩⟩
/-- .. what was handed over is given up. -/
theorem callK {P f Vs L v Ws} (h : Pure P f Ws (fun o => o = .ret v)) (hs : sealL L Vs = Ws) : CallDV P f Vs L v (tagsL L Vs) := ⟨hs ▸ h, .inr rfl⟩
theorem retB {a b : Bool} (h : a = b) : Out.ret (.bool a) = Out.ret (.bool b) := by rw [h]
theorem retI {k : IntKind} {a b : Int} (h : a = b) : Out.ret (.int k a) = Out.ret (.int k b) := by rw [h]
theorem retS {a b : List UInt8} (h : a = b) : Out.ret (.str a) = Out.ret (.str b) := by rw [h]
theorem retV {a b : V} (h : a = b) : Out.ret a = Out.ret b := by rw [h]

/-! ### A loop's head in few words -/
def lookV : List (Nat × V) → Nat → V
  | [], _ => .any
  | (k, v) :: l, i => match Nat.beq k i with
    | true => v
    | false => lookV l i
noncomputable def slots (l : List (Nat × V)) (i n : Nat) : List V := Nat.rec (motive := fun _ => Nat → List V) (fun _ => []) (fun _ F i => lookV l i :: F (i + 1)) n i
theorem w64_nat {n : Nat} (h : n < 4611686018427387904) : IntKind.i64.wrap ((n : Int) + 1) = ((n + 1 : Nat) : Int) := by
  rw [IntWalk.i64_in _ ⟨by omega, by omega⟩]; omega
theorem w64_in {x : Int} (h : -9223372036854775808 ≤ x ∧ x ≤ 9223372036854775807) : IntKind.i64.wrap x = x := IntWalk.i64_in x ⟨by omega, by omega⟩

end Go.Vx
