/-
  PROVED: 'armillarylaw09.JoinByKey' returns true whatever the graph, the number and the two choices, and leaves them as they were.
  CONDITIONS: the row's own: its tied card's (the variable lex.keys as the program's text lays it; each string, slice and map of the arguments within the form's own reach).
-/
import Derived.Test.YtkenfmphlggmcaaDoorQ17
import Derived.Test.YtkenfmphlggmcaaDoorCards
import Derived.Test.YtkenfmphlggmcaaDoorTie
import Derived.SevenTiedAt

section
namespace Go.Proofs.YtkenfmphlggmcaaDoor
open Go.ChangeShapes Go.WideShapes Go.RowKit Go.Ev
set_option maxRecDepth 100000

theorem joinByKey_lifted (os : Os) (started : os.Started) (H : Type) (enc : TypeId × Value → H) :
    ReturnsInHanded {} Tryd.checked os 5 .any (fun w args => (Rows.joinByKeySpec.pre enc Tryd.prog Tryd.f5 [] false w args ∧ laidMetH Tryd.prog [("armillary/lex.keys", Rows.laid_armillary_lex_keys)] w) ∧ sizedMet enc Tryd.prog Tryd.f5 (OpenSpec.ofChange Rows.joinByKeySpec) false w args)
      (Rows.joinByKeySpec.post enc Tryd.prog Tryd.f5 false true false false) := by
  refine returnsInHanded_of_change_and (C := Tryd.checked) (X := fun w _ => laidMetH Tryd.prog [("armillary/lex.keys", Rows.laid_armillary_lex_keys)] w) (fun _ _ _ hh h => h.of_heap hh) own started (by kernel_rfl) Tryd.func5
    (ChangeSpec.witness_shaped (enc := enc) (C := Tryd.checked) (os := os) (X := fun w _ => laidMetH Tryd.prog [("armillary/lex.keys", Rows.laid_armillary_lex_keys)] w) false (World.doorLaid Tryd.prog 14 os) #[.slice none 0 0, .int .i64 0, .agg #[.int .i64 0, .int .i64 0]] 8 rfl (World.shaped_of_RefB (by kernel_rfl) (by kernel_rfl)) (by kernel_rfl) (by kernel_rfl) (by kernel_rfl) (door_met os _)) ?_
  intro W base args ds gs before hval0 hW _ hwt0 hL _
  have hval : ∀ (j : Nat) t v, Tryd.f5.params[j]? = some t → args[j]? = some v → Value.okWide Tryd.prog W .any base t v := hval0
  have hwt : (DataW.weightsEach Tryd.prog (Tryd.f5.params.toList ++ Rows.joinByKeySpec.plain.varTypes Tryd.prog) (ds ++ gs)).all (· ≤ reachBytes) = true := hwt0
  have hW' := hW
  obtain ⟨p, q, hA0, hV, rfl, hfz, hnd⟩ := hW
  have hA : DataW.TrodAll enc Tryd.prog W 0 (fun _ => true) true Tryd.f5.params.toList args.toList ds p := hA0
  rw [Tryd.params5] at hA hval hwt
  obtain ⟨v0, v1, v2, d0, d1, d2, p0, p1, p2, rfl, rfl, rfl, h0, h1, h2⟩ := trodAll_three hA
  obtain ⟨g, r0, hlen, hlt⟩ := graph_in (hval 0 _ v0 rfl rfl) h0 (wt_of (i := 0) hwt rfl rfl)
  obtain ⟨n, rfl, rfl, rfl, _⟩ := open_int Tryd.underlying3 (hval 1 _ v1 rfl rfl) h1
  obtain ⟨a, b, rfl⟩ := pair_in (hval 2 _ v2 rfl rfl) h2
  refine row_says (fn := Tryd.f5) (s := Rows.joinByKeySpec) (by simp [callFunc, Tryd.func5]; kernel_rfl) (by kernel_rfl) (by
    rw [Tryd.params5]
    have h : ([22, 3, 45].all fun t => Tryd.prog.readableRec t && decide (t < Tryd.prog.types.size)) = true := by kernel_rfl
    intro t ht
    simpa using List.all_eq_true.1 h t ht) rfl rfl hW' (laid_in hL) (.cons r0 (.cons .int (.cons (.agg (.cons .int (.cons .int .nil))) .nil))) (joinByKey_ok g .no n a b [] hlen hlt)

theorem joinByKey_holds : Rows.JoinByKeySaid :=
  OpenClaim.holds_of_wide 5 Tryd.f5 rfl rfl rfl rfl rfl rfl rfl ⟨rfl, rfl, rfl, rfl, rfl⟩ rfl rfl rfl rfl rfl (by kernel_rfl) Tryd.func5 (by kernel_rfl)
    (of_decide_eq_true (by kernel_rfl)) (by unfold Func.isWrapper; first | (rw [if_pos (by decide +kernel)]; kernel_rfl) | (rw [if_neg (by decide +kernel)]; exact ⟨rfl, rfl⟩))
    (fun os started H enc _ => joinByKey_lifted os started H enc)

theorem joinByKey_card : Rows.JoinByKeyCardSaid :=
  Claim7.holds_tied_plain_at .later [] [.data] true (true, "d0a0bed348d1b0fa768a83fc0ea06e97fb297fbda6aa0f897a51b0f03ae3b33d") false
    joinByKey_holds (fun _ h => by cases h) (by kernel_rfl) (fun _ h => by cases h) joinByKey_row_tie rfl ⟨rfl, rfl⟩ (by kernel_rfl) rfl
    (fun f fn hf hfn => by
      obtain rfl : f = 5 := Option.some.inj ((show Tryd.prog.funcNamed "armillary/armillarylaw09.JoinByKey" = some 5 by kernel_rfl).symm.trans hf) |>.symm
      obtain rfl : fn = Tryd.f5 := (Option.some.inj (Tryd.func5.symm.trans hfn)).symm
      exact ⟨by kernel_rfl, fun j t ht => by
        rw [Tryd.params5] at ht
        have hm : t ∈ [22, 3, 45] := by simpa using Array.mem_of_getElem? ht
        have hall : ([22, 3, 45].all fun u => !Tryd.prog.wantsStandIn u) = true := by kernel_rfl
        exact (show Tryd.prog.wantsStandIn t = false by simpa using List.all_eq_true.1 hall t hm)⟩)
    (by kernel_rfl)
end Go.Proofs.YtkenfmphlggmcaaDoor
end
