/- CellChecks: for every policy and every cell the law returns true, and each argument reads behind the call as it read before. No condition. -/
import Derived.Test.YteebobbhhgmeiaaCwP
import Derived.Test.YteebobbhhgmeiaaCcA
namespace Go.Proofs.Yteebobbhhgmeiaa.cellChecks
open Go.ChangeShapes Go.WideShapes Go.ChangeAt Go.RowKit

set_option maxRecDepth 100000 in
theorem open_cell {H : Type} {enc : TypeId × Value → H} {w : World} {base : Nat} {spare : Nat → Bool} {held : Bool} {v : Value} {d : DataW H} {p : List MemPlace} {r : Reach} {b0 : Nat} (hv : Value.okWide Try.prog w r b0 55 v) (h : DataW.Trod enc Try.prog w base spare held 55 v d p) :
    ∃ (a b c e : Int) (g : Bool) (s : ByteArray) (x y : Int), v = .agg #[.int .i64 a, .int .i64 b, .int .i64 c, .int .i64 e, .bool g, .string s, .int .i64 x, .int .i64 y] := by
  obtain ⟨cs, rfl, hsz⟩ := agg_of_struct Try.underlying55 hv
  obtain ⟨l⟩ := cs
  have hC : Try.prog.cellsOf 55 = 8 := by kernel_rfl
  have hS : Try.prog.cellsOf 51 = 2 := by kernel_rfl
  have hV : Try.prog.cellsOf 31 = 2 := by kernel_rfl
  have h3 : Try.prog.cellsOf 3 = 1 := by kernel_rfl
  have h4 : Try.prog.cellsOf 4 = 1 := by kernel_rfl
  have h9 : Try.prog.cellsOf 9 = 1 := by kernel_rfl
  match l, hsz.trans hC with
  | [c0, c1, c2, c3, c4, c5, c6, c7], _ =>
    obtain ⟨fuel, hf⟩ := h
    obtain ⟨xs, m, _, _, _, hxl, hg⟩ := DataW.trod_struct Try.underlying55 hf
    have hxl' : xs.length = 5 := hxl
    have g0 := cellWrites.fld (i := 0) (t := 51) (o := 0) (k := 2) rfl rfl rfl hS hg
    have g1 := cellWrites.fld (i := 1) (t := 31) (o := 2) (k := 2) rfl rfl rfl hV hg
    have g2 := cellWrites.fld (i := 2) (t := 4) (o := 4) (k := 1) rfl rfl rfl h4 hg
    have g3 := cellWrites.fld (i := 3) (t := 9) (o := 5) (k := 1) rfl rfl rfl h9 hg
    have g4 := cellWrites.fld (i := 4) (t := 31) (o := 6) (k := 2) rfl rfl rfl hV hg
    simp only [Value.cells] at g0 g1 g2 g3 g4
    rw [List.getElem?_eq_getElem (by omega)] at g0 g1 g2 g3 g4
    obtain ⟨ys, m', _, _, _, hyl, hh⟩ := DataW.trod_struct Try.underlying51 g0
    have hyl' : ys.length = 2 := hyl
    have k0 := cellWrites.fld (i := 0) (t := 3) (o := 0) (k := 1) rfl rfl rfl h3 hh
    have k1 := cellWrites.fld (i := 1) (t := 3) (o := 1) (k := 1) rfl rfl rfl h3 hh
    obtain ⟨a, e0, _⟩ := one_int Try.underlying3 (c := c0) (by rw [List.getElem?_eq_getElem (by omega)]; rfl) k0
    obtain ⟨b, e1, _⟩ := one_int Try.underlying3 (c := c1) (by rw [List.getElem?_eq_getElem (by omega)]; rfl) k1
    obtain ⟨zs, m'', _, _, _, hzl, hk⟩ := DataW.trod_array Try.underlying31 g1
    have j0 := hk 0 (by omega)
    have j1 := hk 1 (by omega)
    simp only [h3] at j0 j1
    obtain ⟨c, e2, _⟩ := one_int Try.underlying3 (c := c2) (by rw [List.getElem?_eq_getElem (by omega)]; rfl) j0
    obtain ⟨e, e3, _⟩ := one_int Try.underlying3 (c := c3) (by rw [List.getElem?_eq_getElem (by omega)]; rfl) j1
    obtain ⟨us, m3, _, _, _, hul, hk'⟩ := DataW.trod_array Try.underlying31 g4
    have i0 := hk' 0 (by omega)
    have i1 := hk' 1 (by omega)
    simp only [h3] at i0 i1
    obtain ⟨x, e6, _⟩ := one_int Try.underlying3 (c := c6) (by rw [List.getElem?_eq_getElem (by omega)]; rfl) i0
    obtain ⟨y, e7, _⟩ := one_int Try.underlying3 (c := c7) (by rw [List.getElem?_eq_getElem (by omega)]; rfl) i1
    obtain ⟨g, e4, _⟩ := DataW.trod_bool Try.underlying4 g2
    obtain ⟨s, e5, _⟩ := DataW.trod_string Try.underlying9 g3
    have e4' : c4 = .bool g := by simpa using e4
    have e5' : c5 = .string s := by simpa using e5
    subst e0 e1 e2 e3 e4' e5' e6 e7
    exact ⟨a, b, c, e, g, s, x, y, rfl⟩

set_option maxRecDepth 100000 in
theorem lifted (os : Os) (started : os.Started) (H : Type) (enc : TypeId × Value → H) :
    ReturnsInHanded {} Try.checked os 7 .any (Rows.cellChecksSpec.pre6 enc Try.prog Try.f7 Rows.cellChecksRow.domain false) (Rows.cellChecksSpec.post enc Try.prog Try.f7 false true false false) := by
  refine returnsInHanded_of_change (C := Try.checked) own started (by kernel_rfl) Try.func7
    (ChangeSpec.witness6 (enc := enc) (C := Try.checked) false ⟨#[], #[.int .i64 0, .agg #[.int .i64 0, .int .i64 0, .int .i64 0, .int .i64 0, .bool false, .string ⟨#[]⟩, .int .i64 0, .int .i64 0]], []⟩ 8 (by kernel_rfl) (by kernel_rfl) (by kernel_rfl) (by kernel_rfl)) ?_
  intro W base args ds gs before hval0 hW hcnd _
  have hval : ∀ (j : Nat) t v, Try.f7.params[j]? = some t → args[j]? = some v → Value.okWide Try.prog W .any base t v := hval0
  have hW' := hW
  have hlt : ∀ x ∈ before, x.block < W.heap.size := fun x hx => hW.lt x hx
  obtain ⟨p, q, hA0, hV, rfl, hfz, hnd⟩ := hW
  have hA : DataW.TrodAll enc Try.prog W 0 (fun _ => true) true Try.f7.params.toList args.toList ds p := hA0
  rw [Try.params7] at hA hval
  have hA' := hA
  obtain ⟨v0, vs0, d0, ds0, p0, q0, hargs, rfl, rfl, h0, r0⟩ := trodAll_cons hA
  obtain ⟨v1, vs1, d1, ds1, p1, q1, rfl, rfl, rfl, h1, r1⟩ := trodAll_cons r0
  obtain ⟨rfl, rfl, rfl⟩ := trodAll_nil r1
  obtain rfl : args = #[v0, v1] := by cases args; simp_all
  obtain ⟨rfl, rfl⟩ := trodVars_none hV
  obtain ⟨a, rfl⟩ := okWide_int Try.underlying3 (hval 0 3 v0 rfl rfl)
  obtain ⟨b0, b1, b2, b3, b4, b5, b6, b7, rfl⟩ := open_cell (hval 1 55 v1 rfl rfl) h1
  have hcall := l08_CellChecks_c a b0 b1 b2 b3 b4 b5 b6 b7 W
  rw [checks_law] at hcall
  refine hcall.mono fun e W' ⟨he, bel⟩ => ?_
  subst he
  have hread : ∀ t ∈ [3, 55], Try.prog.readableRec t = true ∧ t < Try.prog.types.size := by
    intro t ht
    simp only [List.mem_cons, List.not_mem_nil, or_false] at ht
    rcases ht with rfl | rfl
    all_goals exact ⟨by kernel_rfl, of_decide_eq_true (by kernel_rfl)⟩
  exact ⟨_, rfl, _, _, _, [], _, [], hW', trodAll_mk1 (shut_bool Try.underlying4 _),
    below_trodAll bel _ _ _ _ hread hA' (fun x hx => hlt x (by simpa using hx)), rfl, bel.frame _, fun h => by cases h⟩

theorem tA : Try.prog.funcNamed Rows.cellChecksRow.func = some 7 := by kernel_rfl
theorem tB : joinedFacts Try.prog 7 Try.f7 Rows.cellChecksSpec Rows.cellChecksRow = true := by kernel_rfl
theorem tC : Try.f7.isInstance Try.prog Rows.cellChecksRow.origin Rows.cellChecksRow.targs := of_decide_eq_true (by kernel_rfl)
theorem tD0 : decide (Check.packageOf Try.f7.name = "main") = false := by kernel_rfl
theorem tD : Try.f7.isWrapper Try.prog Rows.cellChecksRow.wrapper Rows.cellChecksRow.mainSum := by
  unfold Func.isWrapper
  rw [if_neg (of_decide_eq_false tD0)]
  exact ⟨rfl, rfl⟩

theorem over : Rows.cellChecksRow.holds Try.pinned (OpenSpec.ofChange Rows.cellChecksSpec) :=
  OpenClaim.holds_of_wide 7 Try.f7 rfl rfl rfl rfl rfl rfl rfl ⟨rfl, rfl, rfl, rfl, rfl⟩ rfl rfl rfl rfl rfl tA Try.func7 tB tC tD
    (fun os started H enc _ => lifted os started H enc)

theorem proved : Rows.CellChecksSaid := over
end Go.Proofs.Yteebobbhhgmeiaa.cellChecks
