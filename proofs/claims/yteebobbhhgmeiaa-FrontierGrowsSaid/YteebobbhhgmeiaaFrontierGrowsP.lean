/- made by a program (rowgen.py): FrontierGrows: for every input the law returns true, and each argument reads behind the call as it read before. -/
import Derived.Test.YteebobbhhgmeiaaFgC
import Derived.Test.YteebobbhhgmeiaaTY
import Derived.Test.YteebobbhhgmeiaaTZ
namespace Go.Proofs.Yteebobbhhgmeiaa.frontierGrows
open Go.ChangeShapes Go.WideShapes Go.ChangeAt Go.RowKit

set_option maxRecDepth 100000 in
theorem lifted (os : Os) (started : os.Started) (H : Type) (enc : TypeId × Value → H) :
    ReturnsInHanded {} Try.checked os 3 .any (Rows.frontierGrowsSpec.pre6 enc Try.prog Try.f3 Rows.frontierGrowsRow.domain false) (Rows.frontierGrowsSpec.post enc Try.prog Try.f3 false true false false) := by
  refine returnsInHanded_of_change (C := Try.checked) own started (by kernel_rfl) Try.func3
    (ChangeSpec.witness6 (enc := enc) (C := Try.checked) false ⟨#[], #[.int .i64 0, .slice none 0 0], []⟩ 8 (by kernel_rfl) (by kernel_rfl) (by kernel_rfl) (by kernel_rfl)) ?_
  intro W base args ds gs before hval0 hW hcnd _
  have hval : ∀ (j : Nat) t v, Try.f3.params[j]? = some t → args[j]? = some v → Value.okWide Try.prog W .any base t v := hval0
  have hW' := hW
  have hlt : ∀ x ∈ before, x.block < W.heap.size := fun x hx => hW.lt x hx
  obtain ⟨p, q, hA0, hV, rfl, hfz, hnd⟩ := hW
  have hA : DataW.TrodAll enc Try.prog W 0 (fun _ => true) true Try.f3.params.toList args.toList ds p := hA0
  rw [Try.params3] at hA hval
  have hA' := hA
  obtain ⟨v0, vs0, d0, ds0, p0, q0, hargs, rfl, rfl, h0, r0⟩ := trodAll_cons hA
  obtain ⟨v1, vs1, d1, ds1, p1, q1, rfl, rfl, rfl, h1, r1⟩ := trodAll_cons r0
  obtain ⟨rfl, rfl, rfl⟩ := trodAll_nil r1
  obtain rfl : args = #[v0, v1] := by cases args; simp_all
  obtain ⟨rfl, rfl⟩ := trodVars_none hV
  obtain ⟨a0, w0, g0⟩ := arg_int Try.underlying3 op3 rfl (hval 0 3 v0 rfl rfl) h0
  obtain ⟨a1, w1, g1⟩ := arg_list Try.underlying22 opL22 (hval 1 22 v1 rfl rfl) h1
  obtain ⟨hn, ht⟩ := fg_true a0 a1
  have hc := l23_FrontierGrows_c a0 a1 hn
  have hr : l23_FrontierGrows_r a0 a1 = .v (.bool true) := by show A.v (.bool (l23_FrontierGrows_0 a0 a1)) = _; rw [ht]
  rw [hr] at hc
  refine (call_top hc W [v0, v1] fun F N nx hF => HL.cons (g0 F N nx hF) (HL.cons (g1 F N nx hF) (HL.nil))).mono fun e W' ⟨he, bel⟩ => ?_
  subst he
  have hread : ∀ t ∈ [3, 22], Try.prog.readableRec t = true ∧ t < Try.prog.types.size := by
    intro t ht
    simp only [List.mem_cons, List.not_mem_nil, or_false] at ht
    rcases ht with rfl | rfl
    all_goals exact ⟨by kernel_rfl, of_decide_eq_true (by kernel_rfl)⟩
  exact ⟨_, rfl, _, _, _, [], _, [], hW', trodAll_mk1 (shut_bool Try.underlying4 _),
    below_trodAll bel _ _ _ _ hread hA' (fun x hx => hlt x (by simpa using hx)), rfl, bel.frame _, fun h => by cases h⟩

theorem tA : Try.prog.funcNamed Rows.frontierGrowsRow.func = some 3 := by kernel_rfl
theorem tB : joinedFacts Try.prog 3 Try.f3 Rows.frontierGrowsSpec Rows.frontierGrowsRow = true := by kernel_rfl
theorem tC : Try.f3.isInstance Try.prog Rows.frontierGrowsRow.origin Rows.frontierGrowsRow.targs := of_decide_eq_true (by kernel_rfl)
theorem tD0 : decide (Check.packageOf Try.f3.name = "main") = false := by kernel_rfl
theorem tD : Try.f3.isWrapper Try.prog Rows.frontierGrowsRow.wrapper Rows.frontierGrowsRow.mainSum := by
  unfold Func.isWrapper
  rw [if_neg (of_decide_eq_false tD0)]
  exact ⟨rfl, rfl⟩

theorem over : Rows.frontierGrowsRow.holds Try.pinned (OpenSpec.ofChange Rows.frontierGrowsSpec) :=
  OpenClaim.holds_of_wide 3 Try.f3 rfl rfl rfl rfl rfl rfl rfl ⟨rfl, rfl, rfl, rfl, rfl⟩ rfl rfl rfl rfl rfl tA Try.func3 tB tC tD
    (fun os started H enc _ => lifted os started H enc)

theorem proved : Rows.FrontierGrowsSaid := over
end Go.Proofs.Yteebobbhhgmeiaa.frontierGrows
