/- CellSeen: for every policy, every ask and every vector the law returns true, and each argument reads behind the call as it read before. No condition. -/
import Derived.Test.YteebobbhhgmeiaaCwP
import Derived.Test.YteebobbhhgmeiaaCsA
namespace Go.Proofs.Yteebobbhhgmeiaa.cellSeen
open Go.ChangeShapes Go.WideShapes Go.ChangeAt Go.RowKit

set_option maxRecDepth 100000 in
theorem lifted (os : Os) (started : os.Started) (H : Type) (enc : TypeId × Value → H) :
    ReturnsInHanded {} Try.checked os 6 .any (Rows.cellSeenSpec.pre6 enc Try.prog Try.f6 Rows.cellSeenRow.domain false) (Rows.cellSeenSpec.post enc Try.prog Try.f6 false true false false) := by
  refine returnsInHanded_of_change (C := Try.checked) own started (by kernel_rfl) Try.func6
    (ChangeSpec.witness6 (enc := enc) (C := Try.checked) false ⟨#[], #[.int .i64 0, .agg #[.int .i64 0, .int .i64 0, .int .i64 0, .int .i64 0, .bool false, .string ⟨#[]⟩], .agg #[.int .i64 0, .int .i64 0]], []⟩ 8 (by kernel_rfl) (by kernel_rfl) (by kernel_rfl) (by kernel_rfl)) ?_
  intro W base args ds gs before hval0 hW hcnd _
  have hval : ∀ (j : Nat) t v, Try.f6.params[j]? = some t → args[j]? = some v → Value.okWide Try.prog W .any base t v := hval0
  have hW' := hW
  have hlt : ∀ x ∈ before, x.block < W.heap.size := fun x hx => hW.lt x hx
  obtain ⟨p, q, hA0, hV, rfl, hfz, hnd⟩ := hW
  have hA : DataW.TrodAll enc Try.prog W 0 (fun _ => true) true Try.f6.params.toList args.toList ds p := hA0
  rw [Try.params6] at hA hval
  have hA' := hA
  obtain ⟨v0, vs0, d0, ds0, p0, q0, hargs, rfl, rfl, h0, r0⟩ := trodAll_cons hA
  obtain ⟨v1, vs1, d1, ds1, p1, q1, rfl, rfl, rfl, h1, r1⟩ := trodAll_cons r0
  obtain ⟨v2, vs2, d2, ds2, p2, q2, rfl, rfl, rfl, h2, r2⟩ := trodAll_cons r1
  obtain ⟨rfl, rfl, rfl⟩ := trodAll_nil r2
  obtain rfl : args = #[v0, v1, v2] := by cases args; simp_all
  obtain ⟨rfl, rfl⟩ := trodVars_none hV
  obtain ⟨a, rfl⟩ := okWide_int Try.underlying3 (hval 0 3 v0 rfl rfl)
  obtain ⟨b0, b1, b2, b3, b4, b5, rfl⟩ := cellWrites.open_ask (hval 1 53 v1 rfl rfl) h1
  obtain ⟨x, y, rfl, _, _⟩ := open_arr2 Try.underlying31 Try.underlying3 (by kernel_rfl) (by kernel_rfl) (hval 2 31 v2 rfl rfl) h2
  have hcall := l08_CellSeen_c a b0 b1 b2 b3 b4 b5 x y W
  rw [seen_law] at hcall
  refine hcall.mono fun e W' ⟨he, bel⟩ => ?_
  subst he
  have hread : ∀ t ∈ [3, 53, 31], Try.prog.readableRec t = true ∧ t < Try.prog.types.size := by
    intro t ht
    simp only [List.mem_cons, List.not_mem_nil, or_false] at ht
    rcases ht with rfl | rfl | rfl
    all_goals exact ⟨by kernel_rfl, of_decide_eq_true (by kernel_rfl)⟩
  exact ⟨_, rfl, _, _, _, [], _, [], hW', trodAll_mk1 (shut_bool Try.underlying4 _),
    below_trodAll bel _ _ _ _ hread hA' (fun x hx => hlt x (by simpa using hx)), rfl, bel.frame _, fun h => by cases h⟩

theorem tA : Try.prog.funcNamed Rows.cellSeenRow.func = some 6 := by kernel_rfl
theorem tB : joinedFacts Try.prog 6 Try.f6 Rows.cellSeenSpec Rows.cellSeenRow = true := by kernel_rfl
theorem tC : Try.f6.isInstance Try.prog Rows.cellSeenRow.origin Rows.cellSeenRow.targs := of_decide_eq_true (by kernel_rfl)
theorem tD0 : decide (Check.packageOf Try.f6.name = "main") = false := by kernel_rfl
theorem tD : Try.f6.isWrapper Try.prog Rows.cellSeenRow.wrapper Rows.cellSeenRow.mainSum := by
  unfold Func.isWrapper
  rw [if_neg (of_decide_eq_false tD0)]
  exact ⟨rfl, rfl⟩

theorem over : Rows.cellSeenRow.holds Try.pinned (OpenSpec.ofChange Rows.cellSeenSpec) :=
  OpenClaim.holds_of_wide 6 Try.f6 rfl rfl rfl rfl rfl rfl rfl ⟨rfl, rfl, rfl, rfl, rfl⟩ rfl rfl rfl rfl rfl tA Try.func6 tB tC tD
    (fun os started H enc _ => lifted os started H enc)

theorem proved : Rows.CellSeenSaid := over
end Go.Proofs.Yteebobbhhgmeiaa.cellSeen
