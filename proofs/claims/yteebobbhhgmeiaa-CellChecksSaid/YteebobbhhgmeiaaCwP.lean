/- CellWrites: for every policy and every ask the law returns true, and each argument reads behind the call as it read before. No condition. -/
import Derived.Test.YteebobbhhgmeiaaRow
import Derived.Test.YteebobbhhgmeiaaCwA
namespace Go.Proofs.Yteebobbhhgmeiaa.cellWrites
open Go.ChangeShapes Go.WideShapes Go.ChangeAt Go.RowKit

section
variable {H : Type} {enc : TypeId × Value → H} {w : World} {base : Nat} {spare : Nat → Bool} {held : Bool} {v : Value} {d : DataW H} {p : List MemPlace}
theorem fld {P : Program} {fs : Array Field} {cs : List Value} {m i : Nat} {xs : List (DataW H × List MemPlace)} {f : Field} {t : TypeId} {o k : Nat} (hf : fs[i]? = some f) (ht : f.type = t) (ho : f.offset = o) (hk : P.cellsOf t = k)
    (g : ∀ (i : Nat) (f : Field), fs[i]? = some f → DataW.trod enc P w base spare held m f.type ((cs.drop f.offset).take (P.cellsOf f.type)) = xs[i]?) : DataW.trod enc P w base spare held m t ((cs.drop o).take k) = xs[i]? := by
  subst ht ho hk
  exact g i f hf
set_option maxRecDepth 100000 in
theorem open_ask {r : Reach} {b0 : Nat} (hv : Value.okWide Try.prog w r b0 53 v) (h : DataW.Trod enc Try.prog w base spare held 53 v d p) :
    ∃ (a b c e : Int) (g : Bool) (s : ByteArray), v = .agg #[.int .i64 a, .int .i64 b, .int .i64 c, .int .i64 e, .bool g, .string s] := by
  obtain ⟨cs, rfl, hsz⟩ := agg_of_struct Try.underlying53 hv
  obtain ⟨l⟩ := cs
  have hC : Try.prog.cellsOf 53 = 6 := by kernel_rfl
  have hS : Try.prog.cellsOf 51 = 2 := by kernel_rfl
  have hV : Try.prog.cellsOf 31 = 2 := by kernel_rfl
  have h3 : Try.prog.cellsOf 3 = 1 := by kernel_rfl
  have h4 : Try.prog.cellsOf 4 = 1 := by kernel_rfl
  have h9 : Try.prog.cellsOf 9 = 1 := by kernel_rfl
  match l, hsz.trans hC with
  | [c0, c1, c2, c3, c4, c5], _ =>
    obtain ⟨fuel, hf⟩ := h
    obtain ⟨xs, m, _, _, _, hxl, hg⟩ := DataW.trod_struct Try.underlying53 hf
    have hxl' : xs.length = 4 := hxl
    have g0 := fld (i := 0) (t := 51) (o := 0) (k := 2) rfl rfl rfl hS hg
    have g1 := fld (i := 1) (t := 31) (o := 2) (k := 2) rfl rfl rfl hV hg
    have g2 := fld (i := 2) (t := 4) (o := 4) (k := 1) rfl rfl rfl h4 hg
    have g3 := fld (i := 3) (t := 9) (o := 5) (k := 1) rfl rfl rfl h9 hg
    simp only [Value.cells] at g0 g1 g2 g3
    rw [List.getElem?_eq_getElem (by omega)] at g0 g1 g2 g3
    obtain ⟨ys, m', _, _, _, hyl, hh⟩ := DataW.trod_struct Try.underlying51 g0
    have hyl' : ys.length = 2 := hyl
    have k0 := fld (i := 0) (t := 3) (o := 0) (k := 1) rfl rfl rfl h3 hh
    have k1 := fld (i := 1) (t := 3) (o := 1) (k := 1) rfl rfl rfl h3 hh
    obtain ⟨a, e0, _⟩ := one_int Try.underlying3 (c := c0) (by rw [List.getElem?_eq_getElem (by omega)]; rfl) k0
    obtain ⟨b, e1, _⟩ := one_int Try.underlying3 (c := c1) (by rw [List.getElem?_eq_getElem (by omega)]; rfl) k1
    obtain ⟨zs, m'', _, _, _, hzl, hk⟩ := DataW.trod_array Try.underlying31 g1
    have j0 := hk 0 (by omega)
    have j1 := hk 1 (by omega)
    simp only [h3] at j0 j1
    obtain ⟨c, e2, _⟩ := one_int Try.underlying3 (c := c2) (by rw [List.getElem?_eq_getElem (by omega)]; rfl) j0
    obtain ⟨e, e3, _⟩ := one_int Try.underlying3 (c := c3) (by rw [List.getElem?_eq_getElem (by omega)]; rfl) j1
    obtain ⟨g, e4, _⟩ := DataW.trod_bool Try.underlying4 g2
    obtain ⟨s, e5, _⟩ := DataW.trod_string Try.underlying9 g3
    have e4' : c4 = .bool g := by simpa using e4
    have e5' : c5 = .string s := by simpa using e5
    subst e0 e1 e2 e3 e4' e5'
    exact ⟨a, b, c, e, g, s, rfl⟩
end

set_option maxRecDepth 100000 in
theorem lifted (os : Os) (started : os.Started) (H : Type) (enc : TypeId × Value → H) :
    ReturnsInHanded {} Try.checked os 5 .any (Rows.cellWritesSpec.pre6 enc Try.prog Try.f5 Rows.cellWritesRow.domain false) (Rows.cellWritesSpec.post enc Try.prog Try.f5 false true false false) := by
  refine returnsInHanded_of_change (C := Try.checked) own started (by kernel_rfl) Try.func5
    (ChangeSpec.witness6 (enc := enc) (C := Try.checked) false ⟨#[], #[.int .i64 0, .agg #[.int .i64 0, .int .i64 0, .int .i64 0, .int .i64 0, .bool false, .string ⟨#[]⟩]], []⟩ 8 (by kernel_rfl) (by kernel_rfl) (by kernel_rfl) (by kernel_rfl)) ?_
  intro W base args ds gs before hval0 hW hcnd _
  have hval : ∀ (j : Nat) t v, Try.f5.params[j]? = some t → args[j]? = some v → Value.okWide Try.prog W .any base t v := hval0
  have hW' := hW
  have hlt : ∀ x ∈ before, x.block < W.heap.size := fun x hx => hW.lt x hx
  obtain ⟨p, q, hA0, hV, rfl, hfz, hnd⟩ := hW
  have hA : DataW.TrodAll enc Try.prog W 0 (fun _ => true) true Try.f5.params.toList args.toList ds p := hA0
  rw [Try.params5] at hA hval
  have hA' := hA
  obtain ⟨v0, vs0, d0, ds0, p0, q0, hargs, rfl, rfl, h0, r0⟩ := trodAll_cons hA
  obtain ⟨v1, vs1, d1, ds1, p1, q1, rfl, rfl, rfl, h1, r1⟩ := trodAll_cons r0
  obtain ⟨rfl, rfl, rfl⟩ := trodAll_nil r1
  obtain rfl : args = #[v0, v1] := by cases args; simp_all
  obtain ⟨rfl, rfl⟩ := trodVars_none hV
  obtain ⟨a, rfl⟩ := okWide_int Try.underlying3 (hval 0 3 v0 rfl rfl)
  obtain ⟨b0, b1, b2, b3, b4, b5, rfl⟩ := open_ask (hval 1 53 v1 rfl rfl) h1
  have hcall := l08_CellWrites_c a b0 b1 b2 b3 b4 b5 W
  rw [writes_law] at hcall
  refine hcall.mono fun e W' ⟨he, bel⟩ => ?_
  subst he
  have hread : ∀ t ∈ [3, 53], Try.prog.readableRec t = true ∧ t < Try.prog.types.size := by
    intro t ht
    simp only [List.mem_cons, List.not_mem_nil, or_false] at ht
    rcases ht with rfl | rfl
    all_goals exact ⟨by kernel_rfl, of_decide_eq_true (by kernel_rfl)⟩
  exact ⟨_, rfl, _, _, _, [], _, [], hW', trodAll_mk1 (shut_bool Try.underlying4 _),
    below_trodAll bel _ _ _ _ hread hA' (fun x hx => hlt x (by simpa using hx)), rfl, bel.frame _, fun h => by cases h⟩

theorem tA : Try.prog.funcNamed Rows.cellWritesRow.func = some 5 := by kernel_rfl
theorem tB : joinedFacts Try.prog 5 Try.f5 Rows.cellWritesSpec Rows.cellWritesRow = true := by kernel_rfl
theorem tC : Try.f5.isInstance Try.prog Rows.cellWritesRow.origin Rows.cellWritesRow.targs := of_decide_eq_true (by kernel_rfl)
theorem tD0 : decide (Check.packageOf Try.f5.name = "main") = false := by kernel_rfl
theorem tD : Try.f5.isWrapper Try.prog Rows.cellWritesRow.wrapper Rows.cellWritesRow.mainSum := by
  unfold Func.isWrapper
  rw [if_neg (of_decide_eq_false tD0)]
  exact ⟨rfl, rfl⟩

theorem over : Rows.cellWritesRow.holds Try.pinned (OpenSpec.ofChange Rows.cellWritesSpec) :=
  OpenClaim.holds_of_wide 5 Try.f5 rfl rfl rfl rfl rfl rfl rfl ⟨rfl, rfl, rfl, rfl, rfl⟩ rfl rfl rfl rfl rfl tA Try.func5 tB tC tD
    (fun os started H enc _ => lifted os started H enc)

theorem proved : Rows.CellWritesSaid := over
end Go.Proofs.Yteebobbhhgmeiaa.cellWrites
