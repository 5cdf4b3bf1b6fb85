/- made by a program (rowgen.py): CellBytes: for every input the law returns true, and each argument reads behind the call as it read before. -/
import Derived.Test.YteebobbhhgmeiaaTg
import Derived.Test.YteebobbhhgmeiaaTY
import Derived.Test.YteebobbhhgmeiaaTZ
namespace Go.Proofs.Yteebobbhhgmeiaa.cellBytes
open Go.ChangeShapes Go.WideShapes Go.ChangeAt Go.RowKit

set_option maxRecDepth 100000 in
theorem lifted (os : Os) (started : os.Started) (H : Type) (enc : TypeId × Value → H) :
    ReturnsInHanded {} Try.checked os 10 .any (Rows.cellBytesSpec.pre6 enc Try.prog Try.f10 Rows.cellBytesRow.domain false) (Rows.cellBytesSpec.post enc Try.prog Try.f10 false true false false) := by
  refine returnsInHanded_of_change (C := Try.checked) own started (by kernel_rfl) Try.func10
    (ChangeSpec.witness6 (enc := enc) (C := Try.checked) false ⟨#[], #[.slice none 0 0, .int .i64 0, .agg #[.int .i64 0, .int .i64 0, .int .i64 0, .int .i64 0, .bool false, .string ⟨#[]⟩, .int .i64 0, .int .i64 0]], []⟩ 8 (by kernel_rfl) (by kernel_rfl) (by kernel_rfl) (by kernel_rfl)) ?_
  intro W base args ds gs before hval0 hW hcnd _
  have hval : ∀ (j : Nat) t v, Try.f10.params[j]? = some t → args[j]? = some v → Value.okWide Try.prog W .any base t v := hval0
  have hW' := hW
  have hlt : ∀ x ∈ before, x.block < W.heap.size := fun x hx => hW.lt x hx
  obtain ⟨p, q, hA0, hV, rfl, hfz, hnd⟩ := hW
  have hA : DataW.TrodAll enc Try.prog W 0 (fun _ => true) true Try.f10.params.toList args.toList ds p := hA0
  rw [Try.params10] at hA hval
  have hA' := hA
  obtain ⟨v0, vs0, d0, ds0, p0, q0, hargs, rfl, rfl, h0, r0⟩ := trodAll_cons hA
  obtain ⟨v1, vs1, d1, ds1, p1, q1, rfl, rfl, rfl, h1, r1⟩ := trodAll_cons r0
  obtain ⟨v2, vs2, d2, ds2, p2, q2, rfl, rfl, rfl, h2, r2⟩ := trodAll_cons r1
  obtain ⟨rfl, rfl, rfl⟩ := trodAll_nil r2
  obtain rfl : args = #[v0, v1, v2] := by cases args; simp_all
  obtain ⟨rfl, rfl⟩ := trodVars_none hV
  obtain ⟨a0, w0, g0⟩ := arg_list Try.underlying84 opL84 (hval 0 84 v0 rfl rfl) h0
  obtain ⟨a1, w1, g1⟩ := arg_int Try.underlying3 op3 rfl (hval 1 3 v1 rfl rfl) h1
  obtain ⟨a2, w2, g2⟩ := arg_struct Try.underlying55 op55 rfl (hval 2 55 v2 rfl rfl) h2
  obtain ⟨hn, ht⟩ := bytes_true a0 a1 a2
  have hc := l08_CellBytes_c a0 a1 a2 hn
  have hr : l08_CellBytes_r a0 a1 a2 = .v (.bool true) := by show A.v (.bool (l08_CellBytes_0 a0 a1 a2)) = _; rw [ht]
  rw [hr] at hc
  refine (call_top hc W [v0, v1, v2] fun F N nx hF => HL.cons (g0 F N nx hF) (HL.cons (g1 F N nx hF) (HL.cons (g2 F N nx hF) (HL.nil)))).mono fun e W' ⟨he, bel⟩ => ?_
  subst he
  have hread : ∀ t ∈ [84, 3, 55], Try.prog.readableRec t = true ∧ t < Try.prog.types.size := by
    intro t ht
    simp only [List.mem_cons, List.not_mem_nil, or_false] at ht
    rcases ht with rfl | rfl | rfl
    all_goals exact ⟨by kernel_rfl, of_decide_eq_true (by kernel_rfl)⟩
  exact ⟨_, rfl, _, _, _, [], _, [], hW', trodAll_mk1 (shut_bool Try.underlying4 _),
    below_trodAll bel _ _ _ _ hread hA' (fun x hx => hlt x (by simpa using hx)), rfl, bel.frame _, fun h => by cases h⟩

theorem tA : Try.prog.funcNamed Rows.cellBytesRow.func = some 10 := by kernel_rfl
theorem tB : joinedFacts Try.prog 10 Try.f10 Rows.cellBytesSpec Rows.cellBytesRow = true := by kernel_rfl
theorem tC : Try.f10.isInstance Try.prog Rows.cellBytesRow.origin Rows.cellBytesRow.targs := of_decide_eq_true (by kernel_rfl)
theorem tD0 : decide (Check.packageOf Try.f10.name = "main") = false := by kernel_rfl
theorem tD : Try.f10.isWrapper Try.prog Rows.cellBytesRow.wrapper Rows.cellBytesRow.mainSum := by
  unfold Func.isWrapper
  rw [if_neg (of_decide_eq_false tD0)]
  exact ⟨rfl, rfl⟩

theorem over : Rows.cellBytesRow.holds Try.pinned (OpenSpec.ofChange Rows.cellBytesSpec) :=
  OpenClaim.holds_of_wide 10 Try.f10 rfl rfl rfl rfl rfl rfl rfl ⟨rfl, rfl, rfl, rfl, rfl⟩ rfl rfl rfl rfl rfl tA Try.func10 tB tC tD
    (fun os started H enc _ => lifted os started H enc)

theorem proved : Rows.CellBytesSaid := over
end Go.Proofs.Yteebobbhhgmeiaa.cellBytes
