/- made by a program (rowgen.py): SortedPlays: for every input the law returns true, and each argument reads behind the call as it read before. -/
import Derived.Test.YtnfmceffbnaanaaKSpf
import Derived.Test.YtnfmceffbnaanaaRows

namespace Go.Proofs.Ytnfmceffbnaanaa.sortedPlays
open Go.ChangeShapes Go.WideShapes Go.ChangeAt Go.RowKit
set_option maxRecDepth 100000 in
theorem lifted (os : Os) (started : os.Started) (H : Type) (enc : TypeId × Value → H) :
  ReturnsInHanded {} Try.checked os 5 .any (Rows.sortedPlaysSpec.pre6 enc Try.prog Try.f5 Rows.sortedPlaysRow.domain false) (Rows.sortedPlaysSpec.post enc Try.prog Try.f5 false true false false) := by
 refine returnsInHanded_of_change (C := Try.checked) own started (by kernel_rfl) Try.func5
  (ChangeSpec.witness6 (enc := enc) (C := Try.checked) false ⟨#[], #[.slice none 0 0], []⟩ 8 (by kernel_rfl) (by kernel_rfl) (by kernel_rfl) (by kernel_rfl)) ?_
 intro W base args ds gs before hval0 hW hcnd _
 have hval : ∀ (j : Nat) t v, Try.f5.params[j]? = some t → args[j]? = some v → Value.okWide Try.prog W .any base t v := hval0
 have hW' := hW
 have hlt : ∀ x ∈ before, x.block < W.heap.size := fun x hx => hW.lt x hx
 obtain ⟨p, q, hA0, hV, rfl, hfz, hnd⟩ := hW
 have hA : DataW.TrodAll enc Try.prog W 0 (fun _ => true) true Try.f5.params.toList args.toList ds p := hA0
 rw [Try.params5] at hA hval
 have hA' := hA
 obtain ⟨v0, vs0, d0, ds0, p0, q0, hargs, rfl, rfl, h0, r0⟩ := trodAll_cons hA
 obtain ⟨rfl, rfl, rfl⟩ := trodAll_nil r0
 obtain rfl : args = #[v0] := by cases args; simp_all
 obtain ⟨rfl, rfl⟩ := trodVars_none hV
 obtain ⟨a0, w0, g0⟩ := arg_list Try.underlying22 opL22 (hval 0 22 v0 rfl rfl) h0
 obtain ⟨hn, ht⟩ := pl_true a0 w0
 have hc := l11_SortedPlays_c a0 hn
 have hr : l11_SortedPlays_r a0 = .v (.bool true) := by show A.v (.bool (l11_SortedPlays_0 a0)) = _; rw [ht]
 rw [hr] at hc
 refine (call_topG hc W (fun x hx => (nomatch hx)) [v0] fun F N nx hF => HL.cons (g0 F N nx hF) (HL.nil)).mono fun e W' ⟨he, bel⟩ => ?_
 subst he
 have hread : ∀ t ∈ [22], Try.prog.readableRec t = true ∧ t < Try.prog.types.size := by
  intro t ht
  simp only [List.mem_cons, List.not_mem_nil, or_false] at ht
  subst ht
  all_goals exact ⟨by kernel_rfl, of_decide_eq_true (by kernel_rfl)⟩
 exact ⟨_, rfl, _, _, _, [], _, [], hW', trodAll_mk1 (shut_bool Try.underlying4 _),
  below_trodAll bel _ _ _ _ hread hA' (fun x hx => hlt x (by simpa using hx)), rfl, bel.frame _, fun h => by cases h⟩
theorem tA : Try.prog.funcNamed Rows.sortedPlaysRow.func = some 5 := by kernel_rfl
theorem b0 : (Rows.sortedPlaysRow.wf (OpenSpec.ofChange Rows.sortedPlaysSpec)) = true := by kernel_rfl
theorem b1 : (laidOutB Try.prog) = true := by kernel_rfl
theorem b2 : (mapsRowed Try.prog) = true := by kernel_rfl
theorem b3 : (Try.f5.params.all (Try.prog.readableRec ·)) = true := by kernel_rfl
theorem b4 : (namedTie Try.prog Rows.sortedPlaysRow.named Rows.sortedPlaysSpec.vars) = true := by kernel_rfl
theorem b5 : ((Rows.sortedPlaysRow.stops == [])) = true := by kernel_rfl
theorem b6 : ((Try.prog.stops == [])) = true := by kernel_rfl
theorem b7 : ((Rows.sortedPlaysRow.knobs == [])) = true := by kernel_rfl
theorem b8 : ((Try.prog.stopKnobs == [])) = true := by kernel_rfl
theorem b9 : ((Rows.sortedPlaysRow.inPlace == Try.prog.inPlace 5)) = true := by kernel_rfl
theorem b10 : ((Rows.sortedPlaysRow.unfollowed == Try.prog.unfollowed 5)) = true := by kernel_rfl
theorem b11 : ((Rows.sortedPlaysRow.recurses == Try.prog.recurses 5)) = true := by kernel_rfl
theorem b12 : ((Rows.sortedPlaysRow.named == Try.prog.varsNamed 5)) = true := by kernel_rfl
theorem b13 : ((Rows.sortedPlaysRow.maps == (Try.f5.params.toList ++ Rows.sortedPlaysSpec.plain.varTypes Try.prog).any (Try.prog.mapsRec ·))) = true := by kernel_rfl
theorem b14 : ((Rows.sortedPlaysRow.ifaces == (Try.f5.params.toList ++ Rows.sortedPlaysSpec.plain.varTypes Try.prog).any (Try.prog.ifacesRec ·))) = true := by kernel_rfl
theorem b15 : ((Rows.sortedPlaysRow.mapsOut == Try.prog.mapsAmong Try.f5.resultTypes.toList)) = true := by kernel_rfl
theorem b16 : ((Rows.sortedPlaysRow.loops == (Try.f5.params.toList ++ Rows.sortedPlaysSpec.plain.varTypes Try.prog).any (Try.prog.loopsFrom ·))) = true := by kernel_rfl
theorem b17 : ((Rows.sortedPlaysRow.wideKeys == (Try.f5.params.toList ++ Rows.sortedPlaysSpec.plain.varTypes Try.prog ++ Try.f5.resultTypes.toList).any (Try.prog.wideKeysFrom ·))) = true := by kernel_rfl
theorem b18 : (Rows.sortedPlaysSpec.vars.all (Try.prog.varReadable ·)) = true := by kernel_rfl
theorem b19 : (Try.f5.resultTypes.all (fun t => Try.prog.readableRec t && decide (t < Try.prog.types.size))) = true := by kernel_rfl
theorem b20 : ((Rows.sortedPlaysRow.ifacesOut == Try.f5.resultTypes.toList.any (Try.prog.ifacesRec ·))) = true := by kernel_rfl
theorem b21 : ((Rows.sortedPlaysRow.loopsOut == Try.f5.resultTypes.toList.any (Try.prog.loopsFrom ·))) = true := by kernel_rfl
theorem b22 : ((Rows.sortedPlaysRow.plainKeys == Try.prog.plainKeys)) = true := by kernel_rfl
theorem b23 : (Rows.sortedPlaysRow.shortTexts.isNone) = true := by kernel_rfl
theorem b24 : (Try.prog.stopsHeard) = true := by kernel_rfl
theorem b25 : (Try.prog.mayEnter) = true := by kernel_rfl
theorem b26 : ((Rows.sortedPlaysRow.lifted == Try.prog.liftsFinal)) = true := by kernel_rfl
theorem b27 : ((Try.prog.make == some Rows.sortedPlaysRow.make)) = true := by kernel_rfl
theorem b28 : ((Rows.sortedPlaysRow.kinds == (if Rows.sortedPlaysRow.domain.isEmpty then [] else Try.f5.params.toList.map fun t => match Try.prog.underlying t with | some (.int k) => some k | _ => none))) = true := by kernel_rfl
theorem b29 : ((Rows.sortedPlaysRow.pinned == Rows.sortedPlaysRow.pinnedBy)) = true := by kernel_rfl
theorem b30 : ((Rows.sortedPlaysRow.veiled == (Try.f5.params.toList ++ Rows.sortedPlaysSpec.plain.varTypes Try.prog ++ Try.f5.resultTypes.toList).any (Try.prog.veiledRec ·))) = true := by kernel_rfl
theorem b31 : (Rows.sortedPlaysRow.veiledFits Try.prog Try.f5.params.toList (Try.f5.params.toList ++ Rows.sortedPlaysSpec.plain.varTypes Try.prog ++ Try.f5.resultTypes.toList)) = true := by kernel_rfl
theorem andI {a b : Bool} (h : a = true) (g : b = true) : (a && b) = true := by rw [h, g]; rfl
set_option maxRecDepth 100000 in
theorem tB : joinedFacts Try.prog 5 Try.f5 Rows.sortedPlaysSpec Rows.sortedPlaysRow = true := by
 unfold joinedFacts
 exact (andI (andI (andI (andI (andI (andI (andI (andI (andI (andI (andI (andI (andI (andI (andI (andI (andI (andI (andI (andI (andI (andI (andI (andI (andI (andI (andI (andI (andI (andI (andI b0 b1) b2) b3) b4) b5) b6) b7) b8) b9) b10) b11) b12) b13) b14) b15) b16) b17) b18) b19) b20) b21) b22) b23) b24) b25) b26) b27) b28) b29) b30) b31)
theorem tC : Try.f5.isInstance Try.prog Rows.sortedPlaysRow.origin Rows.sortedPlaysRow.targs := of_decide_eq_true (by kernel_rfl)
theorem tD0 : decide (Check.packageOf Try.f5.name = "main") = false := by kernel_rfl
theorem tD : Try.f5.isWrapper Try.prog Rows.sortedPlaysRow.wrapper Rows.sortedPlaysRow.mainSum := by
 unfold Func.isWrapper
 rw [if_neg (of_decide_eq_false tD0)]
 exact ⟨rfl, rfl⟩
theorem over : Rows.sortedPlaysRow.holds Try.pinned (OpenSpec.ofChange Rows.sortedPlaysSpec) :=
 OpenClaim.holds_of_wide 5 Try.f5 rfl rfl rfl rfl rfl rfl rfl ⟨rfl, rfl, rfl, rfl, rfl⟩ rfl rfl rfl rfl rfl tA Try.func5 tB tC tD
  (fun os started H enc _ => lifted os started H enc)
theorem proved : Rows.SortedPlaysSaid := over
end Go.Proofs.Ytnfmceffbnaanaa.sortedPlays
