/- made by a program (rowgen.py): CellBack: for every input the law returns true, and each argument reads behind the call as it read before. -/
import Derived.Test.YteebobbhhgmeiaaTg
import Derived.Test.YteebobbhhgmeiaaTY
import Derived.Test.YteebobbhhgmeiaaTZ
namespace Go.Proofs.Yteebobbhhgmeiaa.cellBack
open Go.ChangeShapes Go.WideShapes Go.ChangeAt Go.RowKit

set_option maxRecDepth 100000 in
theorem lifted (os : Os) (started : os.Started) (H : Type) (enc : TypeId × Value → H) :
    ReturnsInHanded {} Try.checked os 11 .any (Rows.cellBackSpec.pre6 enc Try.prog Try.f11 Rows.cellBackRow.domain false) (Rows.cellBackSpec.post enc Try.prog Try.f11 false true false false) := by
  refine returnsInHanded_of_change (C := Try.checked) own started (by kernel_rfl) Try.func11
    (ChangeSpec.witness6 (enc := enc) (C := Try.checked) false ⟨#[], #[.int .i64 0, .agg #[.int .i64 0, .int .i64 0, .int .i64 0, .int .i64 0, .bool false, .string ⟨#[]⟩, .int .i64 0, .int .i64 0], .slice none 0 0], []⟩ 8 (by kernel_rfl) (by kernel_rfl) (by kernel_rfl) (by kernel_rfl)) ?_
  intro W base args ds gs before hval0 hW hcnd _
  have hval : ∀ (j : Nat) t v, Try.f11.params[j]? = some t → args[j]? = some v → Value.okWide Try.prog W .any base t v := hval0
  have hW' := hW
  have hlt : ∀ x ∈ before, x.block < W.heap.size := fun x hx => hW.lt x hx
  obtain ⟨p, q, hA0, hV, rfl, hfz, hnd⟩ := hW
  have hA : DataW.TrodAll enc Try.prog W 0 (fun _ => true) true Try.f11.params.toList args.toList ds p := hA0
  rw [Try.params11] at hA hval
  have hA' := hA
  obtain ⟨v0, vs0, d0, ds0, p0, q0, hargs, rfl, rfl, h0, r0⟩ := trodAll_cons hA
  obtain ⟨v1, vs1, d1, ds1, p1, q1, rfl, rfl, rfl, h1, r1⟩ := trodAll_cons r0
  obtain ⟨v2, vs2, d2, ds2, p2, q2, rfl, rfl, rfl, h2, r2⟩ := trodAll_cons r1
  obtain ⟨rfl, rfl, rfl⟩ := trodAll_nil r2
  obtain rfl : args = #[v0, v1, v2] := by cases args; simp_all
  obtain ⟨rfl, rfl⟩ := trodVars_none hV
  obtain ⟨a0, w0, g0⟩ := arg_int Try.underlying3 op3 rfl (hval 0 3 v0 rfl rfl) h0
  obtain ⟨a1, w1, g1⟩ := arg_struct Try.underlying55 op55 rfl (hval 1 55 v1 rfl rfl) h1
  obtain ⟨a2, w2, g2⟩ := arg_list Try.underlying84 opL84 (hval 2 84 v2 rfl rfl) h2
  obtain ⟨hn, ht⟩ := back_true a0 a1 a2
  have hc := l08_CellBack_c a0 a1 a2 hn
  have hr : l08_CellBack_r a0 a1 a2 = .v (.bool true) := by show A.v (.bool (l08_CellBack_0 a0 a1 a2)) = _; rw [ht]
  rw [hr] at hc
  refine (call_top hc W [v0, v1, v2] fun F N nx hF => HL.cons (g0 F N nx hF) (HL.cons (g1 F N nx hF) (HL.cons (g2 F N nx hF) (HL.nil)))).mono fun e W' ⟨he, bel⟩ => ?_
  subst he
  have hread : ∀ t ∈ [3, 55, 84], Try.prog.readableRec t = true ∧ t < Try.prog.types.size := by
    intro t ht
    simp only [List.mem_cons, List.not_mem_nil, or_false] at ht
    rcases ht with rfl | rfl | rfl
    all_goals exact ⟨by kernel_rfl, of_decide_eq_true (by kernel_rfl)⟩
  exact ⟨_, rfl, _, _, _, [], _, [], hW', trodAll_mk1 (shut_bool Try.underlying4 _),
    below_trodAll bel _ _ _ _ hread hA' (fun x hx => hlt x (by simpa using hx)), rfl, bel.frame _, fun h => by cases h⟩

theorem tA : Try.prog.funcNamed Rows.cellBackRow.func = some 11 := by kernel_rfl
theorem tB : joinedFacts Try.prog 11 Try.f11 Rows.cellBackSpec Rows.cellBackRow = true := by kernel_rfl
theorem tC : Try.f11.isInstance Try.prog Rows.cellBackRow.origin Rows.cellBackRow.targs := of_decide_eq_true (by kernel_rfl)
theorem tD0 : decide (Check.packageOf Try.f11.name = "main") = false := by kernel_rfl
theorem tD : Try.f11.isWrapper Try.prog Rows.cellBackRow.wrapper Rows.cellBackRow.mainSum := by
  unfold Func.isWrapper
  rw [if_neg (of_decide_eq_false tD0)]
  exact ⟨rfl, rfl⟩

theorem over : Rows.cellBackRow.holds Try.pinned (OpenSpec.ofChange Rows.cellBackSpec) :=
  OpenClaim.holds_of_wide 11 Try.f11 rfl rfl rfl rfl rfl rfl rfl ⟨rfl, rfl, rfl, rfl, rfl⟩ rfl rfl rfl rfl rfl tA Try.func11 tB tC tD
    (fun os started H enc _ => lifted os started H enc)

theorem proved : Rows.CellBackSaid := over
end Go.Proofs.Yteebobbhhgmeiaa.cellBack
