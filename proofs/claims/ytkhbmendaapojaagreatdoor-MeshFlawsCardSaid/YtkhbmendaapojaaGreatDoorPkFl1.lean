/- MeshFlaws: from what fits its parameters. MeshFlaws: the law of the chapter holds of every input: its row, and its card. -/
import Derived.Test.YtkhbmendaapojaaGreatDoorPkBa24
import Derived.Test.YtkhbmendaapojaaGreatDoorPkBa25
set_option linter.unusedSimpArgs false
set_option linter.unusedVariables false
/- MeshFlaws: from what fits its parameters. -/
namespace Go.Proofs.YtkhbmendaapojaaGreatDoor
open Go Go.Vx Go.Num
set_option maxRecDepth 100000
theorem meshFlaws_pure (Vs : List V) (h : FitAll Tryz.tab Tryz.f7.params.toList Vs) : Pure Tryz.prog 7 Vs (fun o => o = .ret (.bool true)) := by
  have h : FitAll Tryz.tab [24, 29, 32] Vs := h
  match Vs, h with
  | [v1, v2, v3], ⟨h1, h2, h3, _⟩ =>
    obtain ⟨np, P, nf, F, rfl⟩ := fit_mesh h1
    obtain ⟨kd, sz, a0, a1, a2, m, g, tu, hk, rfl⟩ := fit_draft h2
    obtain ⟨w, a, t, n, w', a', t', n', ha, ht, ha', ht', rfl⟩ := fit_bends h3
    exact mf_walk np P nf F kd sz a0 a1 a2 hk m g tu w a t n ha ht w' a' t' n' ha' ht'
end Go.Proofs.YtkhbmendaapojaaGreatDoor
/- MeshFlaws: the law of the chapter holds of every input: its row, and its card. -/
namespace Go.Proofs.YtkhbmendaapojaaGreatDoor
open Go Go.Vx Go.ChangeShapes Go.WideShapes Go.RowKit
set_option maxRecDepth 100000
theorem meshFlaws_lifted (os : Os) (started : os.Started) (H : Type) (enc : TypeId × Value → H) :
    ReturnsInHanded {} Tryz.checked os 7 .any (fun w args => (Rows.meshFlawsSpec.pre enc Tryz.prog Tryz.f7 [] false w args ∧ laidMetH Tryz.prog Rows.meshFlawsRow.laid w) ∧ sizedMet enc Tryz.prog Tryz.f7 (OpenSpec.ofChange Rows.meshFlawsSpec) false w args)
      (Rows.meshFlawsSpec.post enc Tryz.prog Tryz.f7 false true false false) := by
  refine returnsInHanded_of_change_and (C := Tryz.checked) (X := fun w _ => laidMetH Tryz.prog Rows.meshFlawsRow.laid w) (fun _ _ _ hh h => h.of_heap hh) own0 started (by kernel_rfl) Tryz.func7
    (ChangeSpec.witness_shaped (enc := enc) (C := Tryz.checked) (os := os) (X := fun w _ => laidMetH Tryz.prog Rows.meshFlawsRow.laid w) false (World.doorLaid Tryz.prog 400 os) #[.agg #[.slice none 0 0, .slice none 0 0], .agg #[.int .u8 0, .int .u8 0, .int .i16 0, .int .i16 0, .int .i16 0, .slice none 0 0, .bool false], .agg #[.int .u8 0, .int .u8 0, .int .u8 0, .int .i64 0, .int .u8 0, .int .u8 0, .int .u8 0, .int .i64 0]] 12 rfl (shaped0 os _) (by kernel_rfl) (by kernel_rfl) (by kernel_rfl) (door0 os _)) ?_
  intro W base args ds gs before hval hW _ _ hL _
  refine law_calls (T := Tryz.tab) (b := 4) Tryz.tok laidOut0 rfl ?_ rfl Tryz.underlying4 ?_ hval hW (glob0 hL) ?_
  · intro ds hds
    have hp : Tryz.f7.params.size = 3 := rfl
    rw [hp] at hds
    match ds, hds with
    | [_, _, _], _ => rfl
  · intro t ht
    have ht : t ∈ ([24, 29, 32] : List Nat) := ht
    simp only [List.mem_cons, List.not_mem_nil, or_false] at ht
    rcases ht with rfl | rfl | rfl
    all_goals exact ⟨by kernel_rfl, of_decide_eq_true (by kernel_rfl), by kernel_rfl⟩
  · exact fun Vs h => meshFlaws_pure Vs h
theorem meshFlaws_holds : Rows.MeshFlawsSaid :=
  OpenClaim.holds_of_wide 7 Tryz.f7 rfl rfl rfl rfl rfl rfl rfl ⟨rfl, rfl, rfl, rfl, rfl⟩ rfl rfl rfl rfl rfl (by kernel_rfl) Tryz.func7 (by kernel_rfl)
    (of_decide_eq_true (by kernel_rfl)) (by unfold Func.isWrapper; rw [if_neg (of_decide_eq_false (by kernel_rfl))]; exact ⟨rfl, rfl⟩)
    (fun os started H enc _ => meshFlaws_lifted os started H enc)
theorem meshFlaws_card : Rows.MeshFlawsCardSaid :=
  Claim7.holds_tied_plain_at .later [] [.data, .data, .data, .sentinel, .sentinel] true (true, "41064d927b8550ee3a774af7aafa0f1c5e0adbd75066ec920d62864df12f8d35") true
    meshFlaws_holds (fun _ h => by cases h) (by kernel_rfl) (fun _ h => by cases h) meshFlaws_row_tie rfl ⟨rfl, rfl⟩ (by kernel_rfl) rfl
    (fun f fn hf hfn => by
      obtain rfl : f = 7 := Option.some.inj ((show Tryz.prog.funcNamed "verdigris/verdigrislaw35.MeshFlaws" = some 7 by kernel_rfl).symm.trans hf) |>.symm
      obtain rfl : fn = Tryz.f7 := (Option.some.inj (Tryz.func7.symm.trans hfn)).symm
      exact ⟨by kernel_rfl, fun j t ht => by
        have hm : t ∈ ([24, 29, 32] : List Nat) := by simpa using Array.mem_of_getElem? ht
        have hall : (([24, 29, 32] : List Nat).all fun u => !Tryz.prog.wantsStandIn u) = true := by kernel_rfl
        exact (show Tryz.prog.wantsStandIn t = false by simpa using List.all_eq_true.1 hall t hm)⟩)
    (by kernel_rfl)
end Go.Proofs.YtkhbmendaapojaaGreatDoor
