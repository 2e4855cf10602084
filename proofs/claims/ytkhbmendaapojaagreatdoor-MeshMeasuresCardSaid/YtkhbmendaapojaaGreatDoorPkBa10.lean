/- One operation's step and its record: what the reckoned conditions are good for. Rounds of loops over functions; such loops. -/
import Derived.Test.YtkhbmendaapojaaGreatDoorPkBa9
set_option linter.unusedSimpArgs false
set_option linter.unusedVariables false
/- One operation's step and its record: what the reckoned conditions are good for. -/
namespace Go.Vx
open Go Go.RowKit

/-! ### What an operation leans on -/
theorem ptrLoad_congr {T : Tab} {t : Nat} {L L' : List Blk} {v : V} (h : ∀ s ∈ topT v, nth L' s = nth L s) : ptrLoad T t L' v = ptrLoad T t L v := by
  cases v <;> simp only [ptrLoad]
  rename_i b i sub
  rw [h b (by simp [topT])]
theorem slotBits_mem {l : List Operand} {t : Nat} (h : Operand.tmp t ∈ l) : Nat.testBit (slotBits l) t = true := by
  induction l with
  | nil => simp at h
  | cons x l ih =>
    rcases List.mem_cons.1 h with rfl | h'
    · simp only [slotBits, bit_lor, bit_one]; simp
    · have := ih h'
      cases x <;> simp only [slotBits, bit_lor, this, Bool.or_true]
theorem natBits_mem {l : List Nat} {t : Nat} (h : t ∈ l) : Nat.testBit (natBits l) t = true := by
  induction l with
  | nil => simp at h
  | cons x l ih =>
    simp only [natBits, bit_lor, bit_one, Bool.or_eq_true, decide_eq_true_eq]
    rcases List.mem_cons.1 h with rfl | h
    · exact .inl rfl
    · exact .inr (ih h)
theorem topBits_mem {tm : List V} {l : List Operand} {x : Operand} {t : Nat} (hx : x ∈ l) (h : t ∈ topT (evO tm x)) : Nat.testBit (topBits tm l) t = true := by
  induction l with
  | nil => simp at hx
  | cons y l ih =>
    simp only [topBits, bit_lor, Bool.or_eq_true]
    rcases List.mem_cons.1 hx with rfl | hx
    · exact .inl (natBits_mem h)
    · exact .inr (ih hx)
theorem Agree.mono {α : Type} {m m' : Nat} {l l' : List α} (h : Agree m l l') (hm : ∀ s, Nat.testBit m' s = true → Nat.testBit m s = true) : Agree m' l l' := ⟨h.len, fun s hs => h.get s (hm s hs)⟩
theorem Agree.lorR {α : Type} {a b : Nat} {l l' : List α} (h : Agree (Nat.lor a b) l l') : Agree b l l' := h.mono fun s hs => by rw [bit_lor, hs]; simp
theorem Agree.lorL {α : Type} {a b : Nat} {l l' : List α} (h : Agree (Nat.lor a b) l l') : Agree a l l' := h.mono fun s hs => by rw [bit_lor, hs]; simp
theorem evO_agree {l : List Operand} {tm tm' : List V} (h : Agree (slotBits l) tm' tm) : ∀ x ∈ l, evO tm' x = evO tm x := by
  intro x hx
  cases x with
  | tmp t => simp only [evO, nthV, nth_eq]; rw [h.get t (slotBits_mem hx)]
  | _ => rfl
theorem map_evO {tm tm' : List V} {l : List Operand} (h : ∀ x ∈ l, evO tm' x = evO tm x) : l.map (evO tm') = l.map (evO tm) := List.map_congr_left h
theorem map_part {tm tm' : List V} {l : List (Nat × Operand)} (h : ∀ x ∈ l.map (·.2), evO tm' x = evO tm x) : l.map (fun p => (p.1, evO tm' p.2)) = l.map (fun p => (p.1, evO tm p.2)) :=
  List.map_congr_left fun p hp => by rw [h p.2 (List.mem_map.2 ⟨p, hp, rfl⟩)]
theorem opt_evO {tm tm' : List V} {o : Option Operand} (h : ∀ x ∈ o.toList, evO tm' x = evO tm x) : o.map (evO tm') = o.map (evO tm) := by
  cases o with
  | none => rfl
  | some x => simp [h x (by simp)]

theorem prim_congr_tm {T : Tab} {tm tm' : List V} {L : List Blk} {op : Op} (h : ∀ x ∈ opsOf op, evO tm' x = evO tm x) : prim T tm' L op = prim T tm L op := by
  cases op with
  | build t parts => simp only [prim]; rw [map_part (by simpa only [opsOf] using h)]
  | buildSlice t n parts => simp only [prim]; rw [map_part (by simpa only [opsOf] using h)]
  | makeFunc f first caps => simp only [prim]; rw [map_evO (by simpa only [opsOf] using h)]
  | slice t x lo hi mx =>
    simp only [prim]
    rw [h x (by simp [opsOf]), opt_evO (o := lo) fun y hy => h y (by simp only [opsOf, List.mem_cons, List.mem_append]; exact .inr (.inl hy)),
      opt_evO (o := hi) fun y hy => h y (by simp only [opsOf, List.mem_cons, List.mem_append]; exact .inr (.inr (.inl hy))),
      opt_evO (o := mx) fun y hy => h y (by simp only [opsOf, List.mem_cons, List.mem_append]; exact .inr (.inr (.inr hy)))]
  | call c =>
    obtain ⟨cal, args, ats⟩ := c
    cases cal with
    | builtin b => simp only [prim]; rw [map_evO (by simpa only [opsOf] using h)]
    | _ => rfl
  | _ => simp only [prim] <;> simp only [opsOf, List.mem_cons, List.not_mem_nil, or_false, forall_eq_or_imp, forall_eq] at h <;> simp only [h]

theorem lenV_congr {T : Tab} {L L' : List Blk} {t : Nat} {v : V} (h : ∀ s ∈ topT v, nth L' s = nth L s) : lenV T L' t v = lenV T L t v := by
  unfold lenV
  cases (T t).ty <;> cases v <;> simp only [] <;> first | rfl | (rw [h _ (by simp [topT])])
theorem newsOf_congr {L L' : List Blk} {sh : List Sh} {sz : Nat} {v : V} (h : ∀ s ∈ topT v, nth L' s = nth L s) : newsOf L' sh sz v = newsOf L sh sz v := by
  cases v <;> simp only [newsOf] <;> rw [h _ (by simp [topT])]
theorem appendV_congr {T : Tab} {L L' : List Blk} {st tx : Nat} {u v : V} (h1 : ∀ s ∈ topT u, nth L' s = nth L s) (h2 : ∀ s ∈ topT v, nth L' s = nth L s) : appendV T L' st tx u v = appendV T L st tx u v := by
  unfold appendV
  simp only [newsOf_congr h2]
  cases u <;> try rfl
  rename_i t _ _ _ _
  simp only [h1 t (by simp [topT])]
theorem mapOf_congr {T : Tab} {t : Nat} {L L' : List Blk} {v : V} (h : ∀ s ∈ topT v, nth L' s = nth L s) : mapOf T t L' v = mapOf T t L v := by
  unfold mapOf
  split
  · rw [h _ (by simp [topT])]
  · rfl
theorem copyV_congr {T : Tab} {L L' : List Blk} {st tx : Nat} {u v : V} (h1 : ∀ s ∈ topT u, nth L' s = nth L s) (h2 : ∀ s ∈ topT v, nth L' s = nth L s) : copyV T L' st tx u v = copyV T L st tx u v := by
  unfold copyV
  split <;> try rfl
  split <;> try rfl
  rw [newsOf_congr h2]
  split <;> try rfl
  split <;> try rfl
  rw [h1 _ (by simp [topT])]
theorem unsafeStrV_congr {T : Tab} {L L' : List Blk} {pt : Nat} {u v : V} (h : ∀ s ∈ topT u, nth L' s = nth L s) : unsafeStrV T L' pt u v = unsafeStrV T L pt u v := by
  unfold unsafeStrV
  split <;> try rfl
  rw [h _ (by simp [topT])]
theorem bytesStrV_congr {T : Tab} {L L' : List Blk} {s : Nat} {u : V} (h : ∀ s ∈ topT u, nth L' s = nth L s) : bytesStrV T L' s u = bytesStrV T L s u := by
  unfold bytesStrV
  split <;> try rfl
  split <;> try rfl
  rw [newsOf_congr h]
theorem prim_congr_L {T : Tab} {tm : List V} {L L' : List Blk} {op : Op} (h : ∀ x ∈ opsOf op, ∀ s ∈ topT (evO tm x), nth L' s = nth L s) : prim T tm L' op = prim T tm L op := by
  cases op with
  | load t x => simp only [prim]; rw [ptrLoad_congr (h x (by simp [opsOf]))]
  | store t x y =>
    have := h x (by simp [opsOf])
    simp only [prim]
    split
    · rename_i b i sub hv
      rw [hv] at this
      rw [this b (by simp [topT])]
    · rfl
  | slice t x lo hi mx =>
    have := h x (by simp [opsOf])
    simp only [prim]
    split
    · unfold sliceArrG
      split
      · rename_i hv
        rw [hv] at this
        rw [this _ (by simp [topT])]
      · rfl
    · rfl
  | convert s d x => simp only [prim]; rw [bytesStrV_congr (h x (by simp [opsOf]))]
  | lookup t x i ok => simp only [prim, lookupV]; rw [mapOf_congr (h x (by simp [opsOf]))]
  | mapUpdate t x k y => simp only [prim, mapUpdateV]; rw [mapOf_congr (h x (by simp [opsOf]))]
  | mapEntry t x k => simp only [prim, mapEntryV]; rw [mapOf_congr (h x (by simp [opsOf]))]
  | entryStore t x k y => simp only [prim, entryStoreV]; rw [mapOf_congr (h x (by simp [opsOf]))]
  | range t x =>
    have := h x (by simp [opsOf])
    simp only [prim, rangeV]
    split
    · rfl
    · rename_i hv
      rw [hv] at this
      rw [this _ (by simp [topT])]
    · rfl
  | call c =>
    obtain ⟨cal, args, ats⟩ := c
    cases cal with
    | builtin b =>
      simp only [prim]
      unfold builtinV
      generalize hvs : args.toList.map (evO tm) = vs
      split
      · rename_i t _ v _ _
        refine lenV_congr ?_
        have hx : v ∈ args.toList.map (evO tm) := by rw [hvs]; simp
        obtain ⟨x, hx1, hx2⟩ := List.mem_map.1 hx
        rw [← hx2]
        exact h x (by simpa only [opsOf] using hx1)
      · rfl
      · rfl
      · rename_i st tx u v _
        have top : ∀ y, y ∈ [u, v] → ∀ s ∈ topT y, nth L' s = nth L s := by
          intro y hy
          rw [← hvs] at hy
          obtain ⟨x, hx1, hx2⟩ := List.mem_map.1 hy
          rw [← hx2]
          exact h x (by simpa only [opsOf] using hx1)
        exact appendV_congr (top u (by simp)) (top v (by simp))
      · rename_i st tx u v _
        have top : ∀ y, y ∈ [u, v] → ∀ s ∈ topT y, nth L' s = nth L s := by
          intro y hy
          rw [← hvs] at hy
          obtain ⟨x, hx1, hx2⟩ := List.mem_map.1 hy
          rw [← hx2]
          exact h x (by simpa only [opsOf] using hx1)
        exact copyV_congr (top u (by simp)) (top v (by simp))
      · rfl
      · rename_i u v _
        have hu : ∀ s ∈ topT u, nth L' s = nth L s := by
          have hx : u ∈ args.toList.map (evO tm) := by rw [hvs]; simp
          obtain ⟨x, hx1, hx2⟩ := List.mem_map.1 hx
          rw [← hx2]
          exact h x (by simpa only [opsOf] using hx1)
        exact unsafeStrV_congr hu
      · rfl
    | _ => rfl
  | _ => rfl

theorem prim_congr_M {T : Tab} {tm : List V} {L L' : List Blk} {op : Op} (h : ∀ x ∈ memOps op, ∀ s ∈ topT (evO tm x), nth L' s = nth L s) : prim T tm L' op = prim T tm L op := by
  cases op <;> first
    | rfl
    | exact prim_congr_L h
theorem wpOp_of {r : Option Nat} {P : Program} {o : Oper} {a : Act} {w : World} {next : Act → World → Prop} {Q : Exit → Act → World → Prop} (hd : ∀ c, o.op ≠ .defer c)
    (h : o.uponIn (FR r) 0 P a next Q ((execOp a.eval o).run P w)) : o.wpIn (FR r) 0 P a w next Q := by
  refine ⟨fun _ _ => trivial, ?_⟩
  rw [show (FR r).round = r from rfl, Oper.semAt_eq r a.eval o hd]
  exact h

theorem prim_defer {T : Tab} {tm : List V} {L : List Blk} {o : Op} {c : Call} (h : o = .defer c) : prim T tm L o = .bad := by subst h; rfl

theorem PR.Ok.congr {P : Program} {ρ I L w} {s s' : Sem Next} (hs : s.run P w = s'.run P w) : ∀ {pr : PR}, pr.Ok P ρ I L w s → pr.Ok P ρ I L w s'
  | .val v, ⟨x, h1, h2⟩ => ⟨x, h1, by simpa [RunsTo, hs] using h2⟩
  | .updv t b v, ⟨blk, te, o', w', x, h1, h2, h3, h4, h5, h7, h6⟩ => ⟨blk, te, o', w', x, h1, h2, h3, h4, h5, h7, by simpa [RunsTo, hs] using h6⟩
  | .br c r r', h => ⟨fun hc => (h.1 hc).congr hs, fun hc => (h.2 hc).congr hs⟩
  | .all p r, ⟨i, h1, h2⟩ => ⟨i, h1, h2.congr hs⟩
  | .upd t b, ⟨blk, te, o', w', h1, h2, h3, h4, h5, h6⟩ => ⟨blk, te, o', w', h1, h2, h3, h4, h5, by simpa [RunsTo, hs] using h6⟩
  | .new b n m sz v, ⟨o, x, h1, h2⟩ => ⟨o, x, by simpa [RunsTo, hs] using h1, h2⟩
  | .grd c r, h => fun hc => (h hc).congr hs
  | .req p r, h => fun hc => (h hc).congr hs
  | .app t off b n sz v, ⟨x, w', h1, h2⟩ => ⟨x, w', by simpa [RunsTo, hs] using h1, h2⟩
  | .bad, _ => trivial

theorem isCall_eq {op : Op} {c : Call} (hc : isCallOp op = some c) : op = .call c := by
  unfold isCallOp at hc
  split at hc
  · rename_i c' ho'
    split at hc
    · cases hc
    · cases hc; rfl
  · cases hc
theorem isPanic_eq {op : Op} {x : Operand} (hx : isPanicOp op = some x) : op = .panic x := by
  unfold isPanicOp at hx
  split at hx
  · cases hx; rfl
  · cases hx

/-- How one operation ends. -/
theorem evStep_ok {E : Env} (hE : EnvOk E) {call yld : Nat → List V → List Blk → (Out → List Blk → Prop) → Prop} (hcall : ∀ g args L K, call g args L K → CallS E.P g args L K) (hyld : ∀ t args L K, yld t args L K → YieldS E.P t args L K)
    {ops : Array Oper} {i : Nat} {o : Oper} (hget : ops[i]? = some o) {tm : List V} {L : List Blk} {ds : List DV} {K : KT} {next : List V → List Blk → Prop} (h : evStep E call yld ops.toList o tm L ds K next)
    {lo : Nat} {ρ I} {a : Act} {w : World} {r : Option Nat} {Q : Exit → Act → World → Prop} (hM : Mod ρ I L w) (hT : Rels ρ I tm a.tmps.toList) (hD : DRel lo ρ I L w ds a.defers)
    (hQ : ∀ e a' w', Post lo K ρ I L w e a' w' → Q e a' w') {N : Act → World → Prop}
    (hN : ∀ tm' L' ρ' I' a' w', next tm' L' → Mod ρ' I' L' w' → Rels ρ' I' tm' a'.tmps.toList → DRel lo ρ' I' L' w' ds a'.defers → Stp ρ I L w ρ' I' L' w' → N a' w') :
    wpOpIn (FR r) 0 E.P ops Q i N a w := by
  unfold evStep at h
  obtain ⟨tm, hT, h⟩ := wantK_ok hT o h
  simp only [wpOpIn, hget]
  cases hw : Region.wanted o (yielded ops a.tmps) with
  | false =>
    rw [hw] at h
    simp only [putK_eq] at h
    simp only [Bool.false_eq_true, if_false]
    exact ⟨fun _ _ => trivial, hN _ L ρ I _ w h hM (putT_rel hT (.tup _ _ .nil) _) (by rw [put_defers]; exact hD) (Stp.refl _ _ _ _)⟩
  | true =>
    rw [hw] at h
    simp only [if_true]
    simp only at h
    split at h
    · -- a call
      rename_i c hc
      have hop := isCall_eq hc
      split at h
      · rename_i g args hcal
        obtain ⟨xs, hrun, hxs⟩ := run_callee (P := E.P) (w := w) hT hop hcal
        refine wpOp_of (fun c' hc' => by rw [hop] at hc'; cases hc') ?_
        split at h
        · rename_i hok
          have hS := hcall g args L _ h
          rw [hrun, hE.ok g hok, Oper.uponIn_enter]
          refine ⟨fun hh => by simp [FR, Fence.wide] at hh, ignoreRound ((hS ρ I w xs hM hxs).mono ?_)⟩
          rintro e w' ⟨out, ρ', I', L', hK, hO, hM', hst⟩
          cases e with
          | returned x =>
            cases out with
            | pan v => exact hO.elim
            | ret v =>
              simp only [forceV_eq, putK_eq] at hK
              exact hN _ L' ρ' I' _ w' hK hM' (putT_rel (hT.mono hst.rho hst.im) hO _) (by rw [put_defers]; exact hD.step hst) hst
          | panicked ch =>
            cases out with
            | ret v => exact hO.elim
            | pan v =>
              have hX : ExRel ρ' I' (.pan v) (.panic ch) := by
                cases ch with
                | nil => exact hO.elim
                | cons c1 ch => cases ch with
                  | nil => exact hO
                  | cons => exact hO.elim
              exact hQ _ _ _ ⟨.pan v, tm, L', ds, ρ', I', hK, hX, hM', hT.mono hst.rho hst.im, hD.step hst, hst⟩
          | outgrown => cases out <;> exact hO.elim
        · split at h
          · rename_i hx hext
            have hp := (hE.ext g hx hext ρ I L w args xs hM hxs)
            obtain ⟨x, w', v, ρ', I', L', h1, h2, h3, h4, h5⟩ := evPR_ok hM hp h
            rw [hrun]
            have hnext := hN _ L' ρ' I' (a.put o.dst x) w' h5 h3 (putT_rel (hT.mono h4.rho h4.im) h2 _) (by rw [put_defers]; exact hD.step h4) h4
            rcases h1 with h1 | ⟨h1, h6⟩
            · rw [h1, Oper.uponIn_value]; exact hnext
            · rw [h1, Oper.uponIn_skip, ← h6]; exact hnext
          · exact h.elim
      · split at h
        · -- a round
          rename_i t args hcal
          obtain ⟨te, xs, hte, hrun, hxs⟩ := run_calleeY (P := E.P) (w := w) hT hop hcal
          refine wpOp_of (fun c' hc' => by rw [hop] at hc'; cases hc') ?_
          obtain ⟨f, tmps, asg, body, hy, hround⟩ := hyld t args L _ h ρ I w r xs hM hxs te hte
          rw [hrun, hy, Oper.uponIn_round]
          refine ⟨fun hh => by simp [FR, Fence.wide] at hh, hround.mono ?_⟩
          rintro e w' ⟨out, ρ', I', L', hK, hO, hM', hst⟩
          cases e with
          | returned x =>
            cases out with
            | pan v => exact hO.elim
            | ret v =>
              simp only [forceV_eq, putK_eq] at hK
              exact hN _ L' ρ' I' _ w' hK hM' (putT_rel (hT.mono hst.rho hst.im) hO _) (by rw [put_defers]; exact hD.step hst) hst
          | panicked ch =>
            cases out with
            | ret v => exact hO.elim
            | pan v => exact hK.elim
          | outgrown => cases out <;> exact hO.elim
        · exact h.elim
    · rename_i hnc
      split at h
      · -- a panic
        rename_i x hx
        have hop := isPanic_eq hx
        split at h
        · rename_i t v hv
          have hxr := rel_evO hT x
          rw [hv] at hxr
          refine wpOp_of (fun c' hc' => by rw [hop] at hc'; cases hc') ?_
          generalize hax : a.eval x = X at hxr
          have hrel := hxr
          cases hxr; rename_i y hy
          have hrun : (execOp a.eval o).run E.P w = .halt (.panic (.iface t y)) w := by
            simp [execOp, hop, hax, Instr.panic]
          rw [hrun, Oper.uponIn_panic]
          exact hQ _ _ _ ⟨.pan (.iface t v), tm, L, ds, ρ, I, h, ⟨rfl, rfl, hrel⟩, hM, hT, hD, Stp.refl _ _ _ _⟩
        · exact h.elim
      · have hp : (∃ pr : PR, pr.Ok E.P ρ I L w (execOp a.eval o) ∧ (evPR pr tm L o.dst next ∨ evP2 pr tm L o.dst next)) ∧ ∀ c, o.op ≠ .defer c := by
          split at h
          · rename_i x isS hn
            have hop : o.op = .next x isS := by
              unfold isNextOp at hn
              split at hn
              · rename_i ho'; cases hn; exact ho'
              · cases hn
            refine ⟨⟨_, next_ok (P := E.P) hM (rel_evO hT x) isS o.type (execOp a.eval o) ?_, .inl h⟩, fun c hc => by rw [hop] at hc; cases hc⟩
            simp only [execOp, hop, Sem.run_bind]; rfl
          · split at h
            · exact ⟨⟨_, prim_ok hE.T hM hT o, .inr h⟩, fun c hc => by rw [prim_defer hc] at h; exact h⟩
            · exact ⟨⟨_, prim_ok hE.T hM hT o, .inl h⟩, fun c hc => by rw [prim_defer hc] at h; exact h⟩
        obtain ⟨⟨pr, hp, h⟩, hnd⟩ := hp
        -- a plain operation
        obtain ⟨x, w', v, tm', ρ', I', L', h1, h2, h3, h4, h6, h5⟩ : ∃ x w' v tm' ρ' I' L', RunsTo E.P (execOp a.eval o) w x w' ∧ Rel ρ' I' v x ∧ Mod ρ' I' L' w' ∧ Stp ρ I L w ρ' I' L' w' ∧ (∀ xs, Rels ρ I tm xs → Rels ρ' I' tm' xs) ∧ next (putT tm' o.dst v) L' := by
          rcases h with h | h
          · obtain ⟨x, w', v, ρ', I', L', h1, h2, h3, h4, h5⟩ := evPR_ok hM hp h
            exact ⟨x, w', v, tm, ρ', I', L', h1, h2, h3, h4, fun xs hx => hx.mono h4.rho h4.im, h5⟩
          · exact evP2_ok hM hp h
        refine wpOp_of hnd ?_
        · have hnext := hN _ L' ρ' I' (a.put o.dst x) w' h5 h3 (putT_rel (h6 _ hT) h2 _) (by rw [put_defers]; exact hD.step h4) h4
          rcases h1 with h1 | ⟨h1, h7⟩
          · rw [h1, Oper.uponIn_value]; exact hnext
          · rw [h1, Oper.uponIn_skip, ← h7]; exact hnext

/-! ### Records -/
theorem putsK_eq {up : List (Nat × Blk)} {K : List Blk → Prop} : ∀ {L : List Blk}, putsK up K L ↔ K (putsL L up) := by
  induction up with
  | nil => intro L; exact Iff.rfl
  | cons p up ih => intro L; obtain ⟨t, b⟩ := p; simp only [putsK, setK_eq, ih, putsL]
theorem putsL_ws {tm : List V} {dst : Option Nat} {v : V} : putsL tm (wsOf dst v) = putT tm dst v := by cases dst <;> rfl
theorem recK_eq {dst : Option Nat} {m rt : Nat} {v : V} {up : List (Nat × Blk)} {tm : List V} {L : List Blk} {next : Rec → List V → List Blk → Prop} :
    recK dst m rt v up tm L next ↔ next ⟨wsOf dst v, up, m, rt, bitsOf (wsOf dst v), bitsOf up⟩ (putsL tm (wsOf dst v)) (putsL L up) := by
  simp only [recK, forceV_eq, forceN_eq, upK_eq, upA_eq, putsK_eq, putK_eq, putsL_ws]
  rw [show Nat.lor (bitsOf up) 0 = bitsOf up from Nat.or_zero _]

/-- What a record made here is good for. -/
def Made (P : Program) (ops : Array Oper) (i tag : Nat) (tm : List V) (L : List Blk) (next : Rec → List V → List Blk → Prop) : Prop :=
  ∃ r, RecOk P ops i tag tm L r ∧ r.db = bitsOf r.ws ∧ r.wt = bitsOf r.up ∧ next r (putsL tm r.ws) (putsL L r.up)

theorem evRec_ok {P : Program} {ops : Array Oper} {i tag : Nat} {o : Oper} (hget : ops[i]? = some o) {tm : List V} {L : List Blk} {m : Nat}
    (hw : ∀ ρ I (a : Act) tm', Agree m tm' tm → Rels ρ I tm' a.tmps.toList → Region.wanted o (yielded ops a.tmps) = true) (hd : ∀ c, o.op ≠ .defer c) {next : Rec → List V → List Blk → Prop} :
    ∀ {pr : PR} {rt : Nat}, (∀ ρ I (a : Act) w tm' L', Agree m tm' tm → Agree rt L' L → Mod ρ I L' w → Rels ρ I tm' a.tmps.toList → pr.Ok P ρ I L' w (execOp a.eval o)) →
      evRec pr o.dst m rt tag tm L next → Made P ops i tag tm L next
  | .val v, rt, hpr, h => by
    simp only [evRec, recK_eq] at h
    refine ⟨_, ?_, rfl, rfl, h⟩
    intro rd ρ I a w tm' L' h1 h2 hM hT _ Q K hK
    obtain ⟨x, hx, hrun⟩ := hpr ρ I a w tm' L' h1 h2 hM hT
    simp only [wpOpIn, hget, hw ρ I a tm' h1 hT, if_true]
    refine wpOp_of hd ?_
    have hk := hK (a.put o.dst x) w ρ I (put_defers _ _ _) hM (by rw [putsL_ws]; exact putT_rel hT hx _) (Stp.refl _ _ _ _) (fun _ _ => rfl)
    rcases hrun with hr | ⟨hr, he⟩
    · rw [hr, Oper.uponIn_value]; exact hk
    · rw [hr, Oper.uponIn_skip, ← he]; exact hk
  | .upd t b, rt, hpr, h => by
    simp only [evRec, recK_eq] at h
    refine ⟨_, ?_, rfl, rfl, h⟩
    intro rd ρ I a w tm' L' h1 h2 hM hT _ Q K hK
    obtain ⟨blk, te, o', w', g1, g2, g3, g4, g5, hrun⟩ := hpr ρ I a w tm' L' h1 h2 hM hT
    obtain ⟨m1, m2⟩ := hM.update g1 g2 g3 g5.new g4 g5.old g5.size g5.os g5.tape g5.output
    simp only [wpOpIn, hget, hw ρ I a tm' h1 hT, if_true]
    refine wpOp_of hd ?_
    have hk := hK (a.put o.dst undef) w' ρ I (put_defers _ _ _) m1 (by rw [putsL_ws]; exact putT_rel hT (.tup _ _ .nil) _) m2 (fun _ _ => rfl)
    rcases hrun with hr | ⟨hr, he⟩
    · rw [hr, Oper.uponIn_value]; exact hk
    · rw [hr, Oper.uponIn_skip]; exact hk
  | .updv t b v, rt, hpr, h => by
    simp only [evRec, recK_eq] at h
    refine ⟨_, ?_, rfl, rfl, h⟩
    intro rd ρ I a w tm' L' h1 h2 hM hT _ Q K hK
    obtain ⟨blk, te, o', w', x, g1, g2, g3, g4, g5, g6, hrun⟩ := hpr ρ I a w tm' L' h1 h2 hM hT
    obtain ⟨m1, m2⟩ := hM.update g1 g2 g3 g5.new g4 g5.old g5.size g5.os g5.tape g5.output
    simp only [wpOpIn, hget, hw ρ I a tm' h1 hT, if_true]
    refine wpOp_of hd ?_
    have hk := hK (a.put o.dst x) w' ρ I (put_defers _ _ _) m1 (by rw [putsL_ws]; exact putT_rel hT g6 _) m2 (fun _ _ => rfl)
    rcases hrun with hr | ⟨hr, he⟩
    · rw [hr, Oper.uponIn_value]; exact hk
    · rw [hr, Oper.uponIn_skip, ← he]; exact hk
  | .br c r r', rt, hpr, h => by
    simp only [evRec, branch_iff] at h
    cases c with
    | true => exact evRec_ok hget hw hd (fun ρ I a w tm' L' h1 h2 hM hT => (hpr ρ I a w tm' L' h1 h2 hM hT).1 rfl) (h.1 rfl)
    | false => exact evRec_ok hget hw hd (fun ρ I a w tm' L' h1 h2 hM hT => (hpr ρ I a w tm' L' h1 h2 hM hT).2 rfl) (h.2 rfl)
  | .all p r, rt, hpr, h => by
    simp only [evRec] at h
  | .new b n' m' sz v, rt, hpr, h => by
    simp only [evRec] at h
    split at h
    · rename_i hdead
      rw [nth_eq] at hdead
      simp only [recK_eq] at h
      refine ⟨_, ?_, rfl, rfl, h⟩
      intro rd ρ I a w tm' L' h1 h2 hM hT hfree Q K hK
      obtain ⟨ob, x, hrun, h12⟩ := hpr ρ I a w tm' L' h1 h2.lorR hM hT
      have hL' : L'[tag]? = some .dead := by rw [h2.get tag (by rw [bit_lor, bit_one]; simp)]; exact hdead
      have hlt := (List.getElem?_eq_some_iff.1 hL').1
      have hρ := hfree (by rw [hM.len]; exact hlt)
      have hltρ := (List.getElem?_eq_some_iff.1 hρ).1
      have hle : TEs.le ρ (ρ.set tag (some ⟨w.heap.size, 0, sz, n', m'⟩)) := fun s e hs => by
        by_cases hst : tag = s
        · subst hst; rw [hρ] at hs; cases hs
        · rw [List.getElem?_set_ne hst]; exact hs
      obtain ⟨f1, f2⟩ := h12 _ tag hle (by rw [List.getElem?_set_self hltρ])
      obtain ⟨m1, m2⟩ := hM.fill hL' hρ ⟨w.heap.size, 0, sz, n', m'⟩ b ob rfl f1
      simp only [wpOpIn, hget, hw ρ I a tm' h1 hT, if_true]
      refine wpOp_of hd ?_
      have hk := hK (a.put o.dst x) (w.alloc ob) _ I (put_defers _ _ _) m1 (by rw [putsL_ws]; exact putT_rel (hT.mono hle (Imm.le_refl _)) f2 _) m2 (fun s hs => by rw [List.getElem?_set_ne (Ne.symm hs)])
      rcases hrun with hr | ⟨hr, he⟩
      · rw [hr, Oper.uponIn_value]; exact hk
      · rw [hr, Oper.uponIn_skip, ← he]; exact hk
    · exact h.elim
  | .grd c r, rt, hpr, h => by
    simp only [evRec] at h
    cases c with
    | true => exact evRec_ok hget hw hd (fun ρ I a w tm' L' h1 h2 hM hT => hpr ρ I a w tm' L' h1 h2 hM hT rfl) h
    | false => exact h.elim
  | .req p r, rt, hpr, h => by
    simp only [evRec] at h
    exact evRec_ok hget hw hd (fun ρ I a w tm' L' h1 h2 hM hT => hpr ρ I a w tm' L' h1 h2 hM hT h.1) h.2
  | .app t off b n' sz v, rt, hpr, h => by
    simp only [evRec] at h
    split at h
    · rename_i hdead
      rw [nth_eq] at hdead
      obtain ⟨up, hup, h'⟩ : ∃ up, (∀ L' : List Blk, putsL L' up = (killO L' t).set tag b) ∧ next ⟨wsOf o.dst (v tag), up, m, Nat.lor (Nat.shiftLeft 1 tag) rt, bitsOf (wsOf o.dst (v tag)), bitsOf up⟩ (putsL tm (wsOf o.dst (v tag))) (putsL L up) := by
        cases t with
        | none => exact ⟨[(tag, b)], fun _ => rfl, by simpa only [recK_eq] using h⟩
        | some t => exact ⟨[(t, .dead), (tag, b)], fun _ => rfl, by simpa only [recK_eq] using h⟩
      refine ⟨_, ?_, rfl, rfl, h'⟩
      intro rd ρ I a w tm' L' h1 h2 hM hT hfree Q K hK
      have hpr := hpr ρ I a w tm' L' h1 h2.lorR hM hT
      have hL' : L'[tag]? = some .dead := by rw [h2.get tag (by rw [bit_lor, bit_one]; simp)]; exact hdead
      have hlt := (List.getElem?_eq_some_iff.1 hL').1
      have hρ := hfree (by rw [hM.len]; exact hlt)
      obtain ⟨x, w', ρ', hrun, q1, q2, q3, q4⟩ := hM.app hL' hρ hpr
      have hputs := hup L'
      simp only [wpOpIn, hget, hw ρ I a tm' h1 hT, if_true]
      refine wpOp_of hd ?_
      have hk := hK (a.put o.dst x) w' ρ' I (put_defers _ _ _) (by rw [hputs]; exact q1) (by rw [putsL_ws]; exact putT_rel (hT.mono q3.rho q3.im) q2 _) (by rw [hputs]; exact q3) q4
      rcases hrun with hr | ⟨hr, he⟩
      · rw [hr, Oper.uponIn_value]; exact hk
      · rw [hr, Oper.uponIn_skip, ← he]; exact hk
    · exact h.elim
  | .bad, _, _, h => h.elim

/-- The guard's answer, and what it leans on. -/
theorem wantK_rec {ops : Array Oper} {tm : List V} {g : Option (Nat × Bool)} {K : Bool → List V → Prop} (hk : wantK ops.toList tm g K) :
    ∃ b, K b tm ∧ ∀ (o : Oper), o.guard = g → ∀ ρ I (a : Act) tm', Agree (guardBits ops.toList g) tm' tm → Rels ρ I tm' a.tmps.toList → Region.wanted o (yielded ops a.tmps) = b := by
  unfold wantK at hk
  split at hk
  · exact ⟨true, hk, fun o ho _ _ _ _ _ _ => by unfold Region.wanted; rw [ho]⟩
  · rename_i j want
    split at hk
    · rename_i oj hoj
      split at hk
      · rename_i d hd
        split at hk
        · rename_i b hb
          have hset : ∀ b', b = b' → tm.set d (.bool b') = tm := by
            rintro b' rfl
            have : tm[d]? = some (.bool b) := by
              simp only [nthV, nth_eq] at hb
              split at hb
              · rename_i v hv; rw [hv, hb]
              · cases hb
            apply List.ext_getElem?
            intro s
            by_cases hs : d = s
            · subst hs
              rw [this, List.getElem?_set_self (List.getElem?_eq_some_iff.1 this).1]
            · rw [List.getElem?_set_ne hs]
          have hwant : ∀ (o : Oper), o.guard = some (j, want) → ∀ ρ I (a : Act) tm', Agree (guardBits ops.toList (some (j, want))) tm' tm → Rels ρ I tm' a.tmps.toList → Region.wanted o (yielded ops a.tmps) = (b == want) := by
            intro o ho ρ I a tm' hag hT
            simp only [guardBits, hoj, hd] at hag
            have hv := nthV_rel hT d
            have he : nthV tm' d = nthV tm d := by simp only [nthV, nth_eq]; rw [hag.get d (by rw [bit_one]; simp)]
            rw [he, hb] at hv
            have hx : a.tmps.getD d undef = .bool b := hv.boolInv
            rw [getOp_eq] at hoj
            have hy : yielded ops a.tmps j = some b := by
              have ho' : ops[j]? = some oj := by simpa using hoj
              have hx' : a.tmps[d]? = some (.bool b) := by
                rw [Array.getD_eq_getD_getElem?] at hx
                cases hq : a.tmps[d]? with
                | none => rw [hq] at hx; cases hx
                | some y => rw [hq] at hx; simp at hx; rw [hx]
              simp [yielded, ho', hd, hx']
            unfold Region.wanted
            rw [ho]
            simp only [hy]
            rfl
          refine ⟨b == want, ?_, hwant⟩
          cases want <;> cases b <;> simp only [branch, setK_eq] at hk <;> first
            | (rw [hset _ rfl] at hk; exact hk)
        · rename_i ts hb
          refine ⟨false, hk, ?_⟩
          intro o ho ρ I a tm' hag hT
          simp only [guardBits, hoj, hd] at hag
          have hv := nthV_rel hT d
          have he : nthV tm' d = nthV tm d := by simp only [nthV, nth_eq]; rw [hag.get d (by rw [bit_one]; simp)]
          rw [he, hb] at hv
          rw [getOp_eq] at hoj
          have hy : yielded ops a.tmps j = none := by
            have ho' : ops[j]? = some oj := by simpa using hoj
            rw [Array.getD_eq_getD_getElem?] at hv
            cases hq : a.tmps[d]? with
            | none => simp [yielded, ho', hd, hq]
            | some y => rw [hq] at hv; cases hv; simp [yielded, ho', hd, hq]
          unfold Region.wanted
          rw [ho]
          simp only [hy]
          cases want <;> rfl
        · exact hk.elim
      · exact hk.elim
    · exact hk.elim

theorem evRec1_ok {E : Env} (hE : EnvOk E) {ops : Array Oper} {i tag : Nat} {o : Oper} (hget : ops[i]? = some o) {tm : List V} {L : List Blk} {next : Rec → List V → List Blk → Prop}
    (h : evRec1 E ops.toList o tag tm L next) : Made E.P ops i tag tm L next := by
  unfold evRec1 at h
  obtain ⟨b, h, hw⟩ := wantK_rec h
  have hw := hw o rfl
  cases b with
  | false =>
    simp only [recK_eq] at h
    refine ⟨_, ?_, rfl, rfl, h⟩
    intro rd ρ I a w tm' L' h1 h2 hM hT _ Q K hK
    simp only [wpOpIn, hget, hw ρ I a tm' h1 hT, Bool.false_eq_true, if_false]
    exact ⟨fun _ _ => trivial, hK (a.put o.dst undef) w ρ I (put_defers _ _ _) hM (by rw [putsL_ws]; exact putT_rel hT (.tup _ _ .nil) _) (Stp.refl _ _ _ _) (fun _ _ => rfl)⟩
  | true =>
    have hw' : ∀ ρ I (a : Act) tm', Agree (Nat.lor (guardBits ops.toList o.guard) (slotBits (opsOf o.op))) tm' tm → Rels ρ I tm' a.tmps.toList → Region.wanted o (yielded ops a.tmps) = true :=
      fun ρ I a tm' h1 hT => hw ρ I a tm' h1.lorL hT
    simp only at h
    split at h
    · rename_i c hc
      have hop := isCall_eq hc
      have hcong : ∀ tm', Agree (Nat.lor (guardBits ops.toList o.guard) (slotBits (opsOf o.op))) tm' tm → callee tm' c = callee tm c := by
        intro tm' h1
        have hev := evO_agree h1.lorR
        rw [hop] at hev
        unfold callee
        cases hcc : c.callee with
        | value f =>
          simp only
          rw [hev f (by simp [opsOf, hcc])]
          have : c.args.toList.map (evO tm') = c.args.toList.map (evO tm) := map_evO fun x hx => hev x (by simp only [opsOf, hcc]; exact List.mem_cons_of_mem _ hx)
          rw [this]
        | _ => rfl
      split at h
      · rename_i g args hcal
        split at h
        · rename_i hfr
          obtain ⟨b, n, sz, v, hcf, h⟩ := h
          split at h
          · rename_i hdead
            rw [nth_eq] at hdead
            simp only [recK_eq] at h
            refine ⟨_, ?_, rfl, rfl, h⟩
            intro rd ρ I a w tm' L' h1 h2 hM hT hfree Q K hK
            have hL' : L'[tag]? = some .dead := by rw [h2.get tag (by rw [bit_lor, bit_one]; simp)]; exact hdead
            have hlt := (List.getElem?_eq_some_iff.1 hL').1
            have hρ := hfree (by rw [hM.len]; exact hlt)
            simp only [wpOpIn, hget, hw' ρ I a tm' h1 hT, if_true]
            refine wpOp_of (fun c' hc' => by rw [hop] at hc'; cases hc') ?_
            obtain ⟨xs, hrun, hxs⟩ := run_callee (P := E.P) (w := w) hT hop (by rw [hcong tm' h1]; exact hcal)
            rw [hrun, hE.ok g (hE.fr g hfr), Oper.uponIn_enter]
            refine ⟨fun hh => by simp [FR, Fence.wide] at hh, ignoreRound ((hcf ρ I L' w xs hM hxs).mono ?_)⟩
            rintro e w' ⟨x, rfl, happ⟩
            obtain ⟨ρ', q1, q2, q3, q4⟩ := hM.appW hL' hρ happ
            exact hK _ w' ρ' I (put_defers _ _ _) q1 (by rw [putsL_ws]; exact putT_rel (hT.mono q3.rho q3.im) q2 _) q3 q4
          · exact h.elim
        · split at h
          · rename_i hok
            obtain ⟨v, kl, hcd, h⟩ := h
            simp only [forceNs_eq, recK_eq] at h
            refine ⟨_, ?_, rfl, rfl, h⟩
            intro rd ρ I a w tm' L' h1 h2 hM hT _ Q K hK
            simp only [wpOpIn, hget, hw' ρ I a tm' h1 hT, if_true]
            refine wpOp_of (fun c' hc' => by rw [hop] at hc'; cases hc') ?_
            obtain ⟨xs, hrun, hxs⟩ := run_callee (P := E.P) (w := w) hT hop (by rw [hcong tm' h1]; exact hcal)
            rw [hrun, hE.ok g hok, Oper.uponIn_enter]
            refine ⟨fun hh => by simp [FR, Fence.wide] at hh, ignoreRound ((callD_ok hcd (fun t ht => by simp only [nth_eq]; exact h2.get t (natBits_mem ht)) hM hxs).mono ?_)⟩
            rintro e w' ⟨I', x, rfl, hx, hM', hst⟩
            exact hK _ w' ρ I' (put_defers _ _ _) (by rw [putsL_killU]; exact hM') (by rw [putsL_ws]; exact putT_rel (hT.mono hst.rho hst.im) hx _) (by rw [putsL_killU]; exact hst) (fun _ _ => rfl)
          · split at h
            · rename_i hx hext
              refine evRec_ok hget hw' (fun c' hc' => by rw [hop] at hc'; cases hc') (fun ρ I a w tm' L' h1 h2 hM hT => ?_) h
              obtain ⟨xs, hrun, hxs⟩ := run_callee (P := E.P) (w := w) hT hop (by rw [hcong tm' h1]; exact hcal)
              exact (hE.ext g hx hext ρ I L' w args xs hM hxs).congr hrun.symm
            · exact h.elim
      · exact h.elim
    · split at h
      · exact h.elim
      · have hd : ∀ c, o.op ≠ .defer c := by
          intro c hc
          rw [topK_eq, prim_defer hc] at h
          exact h
        rw [topK_eq] at h
        refine evRec_ok hget hw' hd (fun ρ I a w tm' L' h1 h2 hM hT => ?_) h
        have := prim_ok hE.T hM hT o
        rw [prim_congr_tm (evO_agree h1.lorR), prim_congr_M (L := L) (L' := L') fun x hx s hs => by simp only [nth_eq]; exact h2.get s (topA_mem hx hs)] at this
        exact this

end Go.Vx
/- Rounds of loops over functions; such loops. -/
namespace Go.Vx
open Go Go.RowKit

theorem run_getLoop {P : Program} {w : World} {b : Nat} {r : Loop} (h : w.heap[b]? = some (.loop r)) : (Instr.getLoop b).run P w = .ok r w := by
  simp [Instr.getLoop, getObj, Sem.run, Sem.run_bind, h]
/-- A record is written. -/
theorem turn_loop {w : World} {b : Nat} {o' : Obj} (hlt : b < w.heap.size) : Turn w b o' { w with heap := w.heap.setIfInBounds b o' } :=
  ⟨by simp [hlt], fun k hk => by simp [Ne.symm hk], by simp, rfl, rfl, rfl⟩
theorem run_setLoop {P : Program} {w : World} {b : Nat} {r r' : Loop} (h : w.heap[b]? = some (.loop r)) : (setObj b (.loop r')).run P w = .ok () { w with heap := w.heap.setIfInBounds b (.loop r') } := by
  simp [setObj, Sem.run, h]

theorem run_endRound {P : Program} {w : World} {b : Nat} {r : Loop} {j : Option Code} (h : w.heap[b]? = some (.loop r)) :
    (Instr.endRound b j).run P w = .ok (.bool j.isNone) { w with heap := w.heap.setIfInBounds b (.loop { r with state := if j.isNone then .ready else .done, pending := j }) } := by
  unfold Instr.endRound
  rw [Sem.run_bind, run_getLoop h, Result.andThen_ok, Sem.run_bind, run_setLoop h]
  simp
theorem run_beginRound {P : Program} {w : World} {b : Nat} {r : Loop} (h : w.heap[b]? = some (.loop r)) (hr : r.state = .ready) :
    (Instr.beginRound b).run P w = .ok () { w with heap := w.heap.setIfInBounds b (.loop { r with state := .busy }) } := by
  unfold Instr.beginRound
  rw [Sem.run_bind, run_getLoop h, Result.andThen_ok, Sem.run_bind, run_setLoop h]
  simp [hr]

theorem round_end {P : Program} {t : Nat} {K : Out → List Blk → Prop} {ρ0 I0 L0 w0} {ρ I L w} {ex : Ex} {e : Exit} {tm : List V} {ds : List DV} {a : Act} {te : TE} (hte : ρ[t]? = some (some te))
    (hM : Mod ρ I L w) (hX : ExRel ρ I ex e) (hst : Stp ρ0 I0 L0 w0 ρ I L w) (hK : roundK K t ex tm L ds) :
    roundPost P te.b (fun e w' => ∃ o ρ' I' L', K o L' ∧ OutRel ρ' I' o e ∧ Mod ρ' I' L' w' ∧ Stp ρ0 I0 L0 w0 ρ' I' L' w') e a w := by
  unfold roundK at hK
  split at hK
  · split at hK
    · rename_i st pend tm0 ps asg body hL
      rw [nth_eq] at hL
      obtain ⟨o, ho, hb⟩ := hM.own t _ te hL rfl hte
      obtain ⟨fnId, tmps, td, rfl, htm⟩ := hb
      have hlt := (Array.getElem?_eq_some_iff.1 ho).1
      have key : ∀ (j : Option Code) (st' : LoopState), st' = (if j.isNone then .ready else .done) → K (.ret (.bool j.isNone)) (L.set t (.loop st' j tm0 ps asg body)) →
          ∃ v w', (Instr.endRound te.b j).run P w = .ok v w' ∧ ∃ o ρ' I' L', K o L' ∧ OutRel ρ' I' o (.returned v) ∧ Mod ρ' I' L' w' ∧ Stp ρ0 I0 L0 w0 ρ' I' L' w' := by
        intro j st' hst' hk
        have ht := turn_loop (w := w) (b := te.b) (o' := .loop { state := st', pending := j, fn := fnId, tmps, params := ps, assign := asg, body, defers := td }) hlt
        obtain ⟨m1, m2⟩ := hM.update (blk' := .loop st' j tm0 ps asg body) hL rfl hte ht.new ⟨fnId, tmps, td, rfl, htm⟩ ht.old ht.size ht.os ht.tape ht.output
        refine ⟨_, _, run_endRound ho, _, ρ, I, _, hk, .bool _, ?_, ?_⟩
        · rw [hst'] at m1; rw [hst']; exact m1
        · rw [hst'] at m2; rw [hst']; exact hst.trans m2
      cases ex with
      | normal =>
        cases e <;> first | exact hX.elim | skip
        simp only [setK_eq] at hK
        exact key none .ready rfl hK
      | ret =>
        cases e <;> first | exact hX.elim | skip
        simp only [setK_eq] at hK
        exact key (some .ret) .done rfl hK
      | exit j =>
        cases e <;> first | exact hX.elim | skip
        simp only [setK_eq] at hK
        have : j = _ := hX
        subst this
        exact key (some (.exit j)) .done rfl hK
      | goto j =>
        cases e <;> first | exact hX.elim | skip
        simp only [setK_eq] at hK
        have : j = _ := hX
        subst this
        exact key (some (.goto j)) .done rfl hK
      | pan v => exact hK.elim
    · exact hK.elim
  · exact hK.elim

theorem yield_ok {E : Env} {code : Option Nat → Code → List V → List Blk → List DV → KT → Prop} (hvc : ∀ rt c tm L ds K, code rt c tm L ds K → CodeS E.P rt c tm L ds K) {t : Nat} {args : List V} {L : List Blk} {K : Out → List Blk → Prop}
    (h : yieldK code t args L K) : YieldS E.P t args L K := by
  unfold yieldK at h
  split at h
  · rename_i st pend tm ps asg body hL
    rw [nth_eq] at hL
    split at h
    · rename_i hlen
      have hlen := natEq_eq hlen
      rw [len_eq, len_eq] at hlen
      rw [setPsK_eq] at h
      intro ρ I w r xs hM hxs te hte
      obtain ⟨o, ho, hb⟩ := hM.own t _ te hL rfl hte
      obtain ⟨fnId, tmps, td, rfl, htm⟩ := hb
      have hxl : xs.size = ps.size := by have := hxs.length; simp at this hlen; omega
      refine ⟨fnId, (ps.zip xs).foldl (fun tmps (p : Nat × Value) => tmps.setIfInBounds p.1 p.2) tmps, asg, body, ?_, ?_⟩
      · unfold Instr.yield
        rw [Sem.run_bind, run_getLoop ho, Result.andThen_ok]
        simp [hxl]
      · refine roundIn_of_wpIn trivial ?_
        have h0 : Rels ρ I ((ps.toList.zip args).foldl (fun tm p => tm.set p.1 p.2) tm) ((ps.zip xs).foldl (fun tmps (p : Nat × Value) => tmps.setIfInBounds p.1 p.2) tmps).toList := by
          have := setPs_rel (ps := ps.toList) hxs htm
          rw [← Array.foldl_toList, Array.toList_zip]; exact this
        have hcode := hvc _ _ _ _ _ _ h w.heap.size ρ I { tmps := (ps.zip xs).foldl (fun tmps (p : Nat × Value) => tmps.setIfInBounds p.1 p.2) tmps, defers := [] } w (some te.b) ⟨te, hte, rfl⟩ hM h0 (DRel.nil ρ I L w)
        refine wpIn_mono hcode ?_
        rintro e a1 w1 ⟨ex, tm1, L1, ds1, ρ1, I1, hK, hX, hM1, hT1, hD1, hst1⟩
        unfold beginK at hK
        split at hK
        · rename_i hds
          have he : e = .normal := by cases e <;> first | rfl | exact hX.elim
          subst he
          split at hK
          · rename_i pend1 tm1' ps1 asg1 body1 hL1
            rw [nth_eq] at hL1
            rw [setK_eq] at hK
            have hte1 := hst1.rho t te hte
            obtain ⟨o1, ho1, hb1⟩ := hM1.own t _ te hL1 rfl hte1
            obtain ⟨fn1, tmps1, td1, rfl, htm1⟩ := hb1
            have hlt1 := (Array.getElem?_eq_some_iff.1 ho1).1
            have ht := turn_loop (w := w1) (b := te.b) (o' := .loop { state := .busy, pending := pend1, fn := fn1, tmps := tmps1, params := ps1, assign := asg1, body := body1, defers := td1 }) hlt1
            obtain ⟨m1, m2⟩ := hM1.update (blk' := .loop .busy pend1 tm1' ps1 asg1 body1) hL1 rfl hte1 ht.new ⟨fn1, tmps1, td1, rfl, htm1⟩ ht.old ht.size ht.os ht.tape ht.output
            refine ⟨_, run_beginRound ho1 rfl, ?_⟩
            have hbody := hvc _ _ _ _ _ _ hK w.heap.size ρ1 I1 a1 _ (some te.b) ⟨te, hte1, rfl⟩ m1 hT1 (hD1.step m2)
            refine wpIn_mono hbody ?_
            rintro e2 a2 w2 ⟨ex2, tm2, L2, ds2, ρ2, I2, hK2, hX2, hM2, hT2, hD2, hst2⟩
            exact round_end (hst2.rho t te hte1) hM2 hX2 ((hst1.trans m2).trans hst2) hK2
          · exact hK.elim
        · exact hK.elim
    · exact h.elim
  · exact h.elim

/-- The whole statement. -/
theorem run_newObj {P : Program} {w : World} {o : Obj} : (newObj o).run P w = .ok w.heap.size (w.alloc o) := rfl
theorem over_ok {P : Program} {lo : Nat} {K : KT} {l : Nat} {tm : List V} {ds : List DV} {ρ0 I0 L0 w0 ρ I L w r} {a : Act} {te : TE} (hte : ρ[l]? = some (some te))
    (hM : Mod ρ I L w) (hT : Rels ρ I tm a.tmps.toList) (hD : DRel lo ρ I L w ds a.defers) (hst : Stp ρ0 I0 L0 w0 ρ I L w) (hK : overK K l tm L ds) (v : Value) :
    rangePost (FR r) 0 P te.b (Post lo K ρ0 I0 L0 w0) a (.returned v) w := by
  unfold overK at hK
  split at hK
  · rename_i st pend tm0 ps asg body hL
    rw [nth_eq] at hL
    obtain ⟨o, ho, hb⟩ := hM.own l _ te hL rfl hte
    obtain ⟨fnId, tmps, td, rfl, htm⟩ := hb
    have hlt := (Array.getElem?_eq_some_iff.1 ho).1
    have hbusy : st ≠ .busy := fun h => by subst h; exact hK
    have hK : jumpK K pend tm (L.set l .dead) ds := by
      cases st <;> first | exact absurd rfl hbusy | simpa only [setK_eq] using hK
    have ht := turn_loop (w := w) (b := te.b) (o' := .loop { state := .exhausted, pending := pend, fn := fnId, tmps := tmps, params := ps, assign := asg, body := body, defers := td }) hlt
    obtain ⟨m1, m2⟩ := hM.update (blk' := .dead) hL rfl hte ht.new trivial ht.old ht.size ht.os ht.tape ht.output
    have hrun : (Instr.endLoop te.b).run P w = .ok pend { w with heap := w.heap.setIfInBounds te.b (.loop { state := .exhausted, pending := pend, fn := fnId, tmps := tmps, params := ps, assign := asg, body := body, defers := td }) } := by
      unfold Instr.endLoop
      rw [Sem.run_bind, run_getLoop ho, Result.andThen_ok]
      have hb : (st == LoopState.busy) = false := by cases st <;> first | rfl | exact absurd rfl hbusy
      simp only [hb, Bool.false_eq_true, if_false]
      rw [Sem.run_bind, run_setLoop ho]
      simp
    refine ⟨pend, _, hrun, ?_⟩
    have hD' := hD.step m2
    have fin : ∀ (ex : Ex) (e : Exit), K ex tm (L.set l .dead) ds → ExRel ρ I ex e → Post lo K ρ0 I0 L0 w0 e a { w with heap := w.heap.setIfInBounds te.b (.loop { state := .exhausted, pending := pend, fn := fnId, tmps := tmps, params := ps, assign := asg, body := body, defers := td }) } :=
      fun ex e hk hx => ⟨ex, tm, _, ds, ρ, I, hk, hx, m1, hT, hD', hst.trans m2⟩
    unfold jumpK at hK
    cases pend with
    | none => exact fin .normal .normal hK trivial
    | some c =>
      cases c with
      | ret => exact wpIn_ret (fin .ret .ret hK trivial)
      | exit j => exact wpIn_exit (fin (.exit j) (.exit j) hK rfl)
      | goto j => exact wpIn_goto (fin (.goto j) (.goto j) hK rfl)
      | _ => exact hK.elim
  · exact hK.elim

theorem rangeFunc_ok {P : Program} {rt : Option Nat} {g : Operand} {ps : Array Nat} {asg body : Code} {f : Nat} {caps : List V} {tm : List V} {L : List Blk} {ds : List DV} {K : KT}
    (hok : ∀ (args : Array Value) w, (callFunc f args).run P w = .ok (.enter f args) w) (hg : evO tm g = .fn (.func f) caps) (har : aroundB rt L = true)
    (hcall : CallS P f (.yld L.length :: caps) (L ++ [.loop .ready none tm ps asg body]) (fun out L' => match out with
      | .ret _ => overK K L.length tm L' ds
      | .pan v => K (.pan v) tm L' ds))
    {lo : Nat} {ρ I} {a : Act} {w : World} {r : Option Nat} (hr : RndRel ρ rt r) (hM : Mod ρ I L w) (hT : Rels ρ I tm a.tmps.toList) (hD : DRel lo ρ I L w ds a.defers) :
    (Code.rangeFunc g ps asg body).wpIn (FR r) 0 P (Post lo K ρ I L w) a w := by
  refine wpIn_rangeFunc fun fnId _ => ?_
  have hlen := hM.len
  have hgx := rel_evO hT g
  rw [hg] at hgx
  generalize hgv : a.eval g = X at hgx
  cases hgx; rename_i xc hxc
  -- the record, and what goes ahead of it
  have main : ∀ (w0 : World) (td : Nat) (mark : List Deferred), Mod ρ I L w0 → Stp ρ I L w ρ I L w0 → DRel lo ρ I L w0 ds (mark ++ a.defers) → 
      (Instr.enterLoop fnId a.tmps ps asg body (FR r).round).run P w = .ok (w0.heap.size, mark) (w0.alloc (.loop { state := .ready, pending := none, fn := fnId, tmps := a.tmps, params := ps, assign := asg, body := body, defers := td })) →
      ∃ (l : Nat) (mark : List Deferred) (w₁ : World) (d : Deferred) (w₁' : World) (f : FuncId) (args : Array Value) (w₂ : World),
        (Instr.enterLoop fnId a.tmps ps asg body (FR r).round).run P w = .ok (l, mark) w₁ ∧
        (resolve a.eval (rangeCall g l) 0).run P w₁ = .ok d w₁' ∧
        (∀ f', Target.leads P w₁' d.target d.args = some f' → (FR r).fn f') ∧
        (invoke d.target d.args).run P w₁' = .ok (.enter f args) w₂ ∧
        ((FR r).depth.isSome = true → 1 ≤ 0) ∧
        CallsIn (FR r) (0 - 1) P f args w₂ (rangePost (FR r) 0 P l (Post lo K ρ I L w) { a with defers := mark ++ a.defers }) := by
    intro w0 td mark m1 m2 hD0 hrun
    obtain ⟨n1, n2⟩ := m1.alloc ⟨w0.heap.size, 0, 0, 0, 0⟩ (.loop .ready none tm ps asg body) (.loop { state := .ready, pending := none, fn := fnId, tmps := a.tmps, params := ps, assign := asg, body := body, defers := td }) rfl
      ⟨fnId, a.tmps, td, rfl, hT.mono (TEs.le_append _ _) (Imm.le_refl _)⟩
    let W := w0.alloc (.loop { state := .ready, pending := none, fn := fnId, tmps := a.tmps, params := ps, assign := asg, body := body, defers := td })
    refine ⟨_, mark, W, { target := .fn (.func f) xc, args := #[.func (.yield w0.heap.size) #[] #[]] }, W, f, #[.func (.yield w0.heap.size) #[] #[]] ++ xc, W, hrun, ?_, fun _ _ => trivial, ?_, fun h => by simp [FR, Fence.wide] at h, ?_⟩
    · have hc : Act.eval a (.const (.func (.yield w0.heap.size) #[] #[])) = .func (.yield w0.heap.size) #[] #[] := rfl
      simp [rangeCall, resolve, hgv, Deferred.ofValue, hc]
    · simp only [invoke]; exact hok _ _
    · have hyl : (ρ ++ [some (⟨w0.heap.size, 0, 0, 0, 0⟩ : TE)])[L.length]? = some (some ⟨w0.heap.size, 0, 0, 0, 0⟩) := last_get hlen _
      have hargs : Rels (ρ ++ [some (⟨w0.heap.size, 0, 0, 0, 0⟩ : TE)]) I (.yld L.length :: caps) (#[Value.func (.yield w0.heap.size) #[] #[]] ++ xc).toList := by
        simp only [Array.toList_append, List.singleton_append]
        exact .cons _ _ _ _ (.yld L.length ⟨w0.heap.size, 0, 0, 0, 0⟩ hyl) (hxc.mono (TEs.le_append _ _) (Imm.le_refl _))
      refine ignoreRound ((hcall _ I _ _ n1 hargs).mono ?_)
      rintro e w' ⟨o, ρ', I', L', hK, hO, hM', hst⟩
      have hall := (m2.trans n2).trans hst
      have hD' : DRel lo ρ' I' L' w' ds (mark ++ a.defers) := (hD0.step n2).step hst
      cases e with
      | returned x =>
        cases o with
        | pan v => exact hO.elim
        | ret v => exact over_ok (a := { a with defers := mark ++ a.defers }) (hst.rho _ _ hyl) hM' (hT.mono hall.rho hall.im) hD' hall hK x
      | panicked ch =>
        cases o with
        | ret v => exact hO.elim
        | pan v =>
          have hX : ExRel ρ' I' (.pan v) (.panic ch) := by
            cases ch with
            | nil => exact hO.elim
            | cons c1 ch => cases ch with
              | nil => exact hO
              | cons => exact hO.elim
          exact ⟨.pan v, tm, L', ds, ρ', I', hK, hX, hM', hT.mono hall.rho hall.im, hD', hall⟩
      | outgrown => cases o <;> exact hO.elim
  cases rt with
  | none =>
    cases r with
    | some b => exact hr.elim
    | none =>
      obtain ⟨d1, d2, bs, d3, d4, d5⟩ := hD
      have hbel : Below w.heap.size w (w.alloc (.deferred (some []))) := (Below.refl _ _).alloc (Nat.le_refl _) _
      obtain ⟨m1, m2⟩ := hM.below hbel
      refine main (w.alloc (.deferred (some []))) w.heap.size [{ target := .collected w.heap.size, args := #[] }] m1 m2 ?_ ?_
      · refine ⟨d1, by simp; omega, w.heap.size :: bs, by simp [d3], ?_, ?_⟩
        · refine List.nodup_cons.2 ⟨fun hb => ?_, d4⟩
          have := (Array.getElem?_eq_some_iff.1 (d5 _ hb).2.1).1; omega
        · intro b hb
          rcases List.mem_cons.1 hb with rfl | hb
          · refine ⟨d2, by show (w.heap.push _)[w.heap.size]? = _; simp, fun ho => ?_, ?_⟩
            · obtain ⟨t, te, blk, h1, h2, h3, h4⟩ := ho
              have := hM.blk_lt h1 h2 h3; omega
            · cases hc : I w.heap.size with
              | none => rfl
              | some o => have := (Array.getElem?_eq_some_iff.1 (hM.imm _ o hc)).1; omega
          · obtain ⟨c1, c2, c3, c4⟩ := d5 b hb
            have hlt := (Array.getElem?_eq_some_iff.1 c2).1
            exact ⟨c1, (Below.heap_alloc w _ b hlt).trans c2, c3, c4⟩
      · show (Instr.enterLoop fnId a.tmps ps asg body none).run P w = _
        simp [Instr.enterLoop, run_newObj]
  | some t =>
    cases r with
    | none => exact hr.elim
    | some b =>
      obtain ⟨te, hte, rfl⟩ := hr
      simp only [aroundB] at har
      split at har
      · rename_i st pend tm0 ps0 asg0 body0 hL
        rw [nth_eq] at hL
        obtain ⟨o, ho, hb⟩ := hM.own t _ te hL rfl hte
        obtain ⟨fn0, tmps0, td, rfl, _⟩ := hb
        refine main w td [] hM (Stp.refl _ _ _ _) (by simpa using hD) ?_
        show (Instr.enterLoop fnId a.tmps ps asg body (some te.b)).run P w = _
        simp [Instr.enterLoop, run_newObj, run_getLoop ho]
      · cases har

end Go.Vx
