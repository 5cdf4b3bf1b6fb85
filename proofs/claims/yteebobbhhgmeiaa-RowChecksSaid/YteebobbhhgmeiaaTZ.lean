/- A symbolic run over typed data, part Z: a law's arguments, opened; its call. -/
import Derived.Test.YteebobbhhgmeiaaTX
import Derived.Test.YteebobbhhgmeiaaRow
namespace Go.Proofs.Yteebobbhhgmeiaa
open Go.RowKit Go.WideShapes Go.ChangeShapes

section
variable {H : Type} {en : TypeId × Value → H} {P : Program} {w : World} {base : Nat} {spare : Nat → Bool} {held : Bool} {t e : TypeId} {v : Value} {d : DataW H} {p : List MemPlace} {r : Reach} {b0 : Nat} {c : TC}
theorem arg_list (ht : P.underlying t = some (.slice e)) (ho : OpnLs P c t) (hv : Value.okWide P w r b0 t v) (h : DataW.Trod en P w base spare held t v d p) :
    ∃ l : List (U c), (l.length ≤ maxLen ∧ ∀ x ∈ l, Wfd c x) ∧ ∀ (F : Nat → Prop) (N : Nm) (nx : Nat), FB w F → Hv F N nx w (.sl c l) v := by
  obtain ⟨a, len, cap, rfl⟩ := okWide_slice ht hv
  obtain ⟨fuel, hf⟩ := h
  obtain ⟨l, h1, h2⟩ := ho en w base spare held fuel _ _ hf
  refine ⟨l, h1, fun F N nx hF => ?_⟩
  obtain ⟨y, ys, e, h3, _⟩ := (h2 F N nx hF).inv
  have e' : [Value.slice a len cap] = y :: ys := e
  cases e'
  exact h3
theorem arg_one (ho : Opn P c t) (ha : c.isAgg = false) (h1 : v.cells.toList = [v]) (h : DataW.Trod en P w base spare held t v d p) :
    ∃ x : U c, Wfd c x ∧ ∀ (F : Nat → Prop) (N : Nm) (nx : Nat), FB w F → Hv F N nx w (valA c x) v := by
  obtain ⟨fuel, hf⟩ := h
  rw [h1] at hf
  obtain ⟨x, h2, h3⟩ := ho en w base spare held fuel _ _ hf
  exact ⟨x, h2, fun F N nx hF => hl_one (h3 F N nx hF) ha rfl⟩
theorem arg_int {k : IntKind} (ht : P.underlying t = some (.int k)) (ho : Opn P c t) (ha : c.isAgg = false) (hv : Value.okWide P w r b0 t v) (h : DataW.Trod en P w base spare held t v d p) :
    ∃ x : U c, Wfd c x ∧ ∀ (F : Nat → Prop) (N : Nm) (nx : Nat), FB w F → Hv F N nx w (valA c x) v := by
  obtain ⟨n, rfl⟩ := okWide_int ht hv
  exact arg_one ho ha rfl h
theorem arg_bool (ht : P.underlying t = some .bool) (ho : Opn P c t) (ha : c.isAgg = false) (hv : Value.okWide P w r b0 t v) (h : DataW.Trod en P w base spare held t v d p) :
    ∃ x : U c, Wfd c x ∧ ∀ (F : Nat → Prop) (N : Nm) (nx : Nat), FB w F → Hv F N nx w (valA c x) v := by
  obtain ⟨n, rfl⟩ := okWide_bool ht hv
  exact arg_one ho ha rfl h
theorem arg_str (ht : P.underlying t = some .string) (ho : Opn P c t) (ha : c.isAgg = false) (hv : Value.okWide P w r b0 t v) (h : DataW.Trod en P w base spare held t v d p) :
    ∃ x : U c, Wfd c x ∧ ∀ (F : Nat → Prop) (N : Nm) (nx : Nat), FB w F → Hv F N nx w (valA c x) v := by
  obtain ⟨n, rfl⟩ := okWide_string ht hv
  exact arg_one ho ha rfl h
theorem arg_agg {cs : Array Value} (ho : Opn P c t) (ha : c.isAgg = true) (hv : v = .agg cs) (h : DataW.Trod en P w base spare held t v d p) :
    ∃ x : U c, Wfd c x ∧ ∀ (F : Nat → Prop) (N : Nm) (nx : Nat), FB w F → Hv F N nx w (valA c x) v := by
  subst hv
  obtain ⟨fuel, hf⟩ := h
  obtain ⟨x, h2, h3⟩ := ho en w base spare held fuel _ _ hf
  exact ⟨x, h2, fun F N nx hF => hl_agg (h3 F N nx hF) ha⟩
theorem arg_struct {fs : Array Field} (ht : P.underlying t = some (.struct fs)) (ho : Opn P c t) (ha : c.isAgg = true) (hv : Value.okWide P w r b0 t v) (h : DataW.Trod en P w base spare held t v d p) :
    ∃ x : U c, Wfd c x ∧ ∀ (F : Nat → Prop) (N : Nm) (nx : Nat), FB w F → Hv F N nx w (valA c x) v := by
  obtain ⟨cs, hcs, _⟩ := agg_of_struct ht hv
  exact arg_agg ho ha hcs h
theorem arg_array {n : Nat} (ht : P.underlying t = some (.array n e)) (ho : Opn P c t) (ha : c.isAgg = true) (hv : Value.okWide P w r b0 t v) (h : DataW.Trod en P w base spare held t v d p) :
    ∃ x : U c, Wfd c x ∧ ∀ (F : Nat → Prop) (N : Nm) (nx : Nat), FB w F → Hv F N nx w (valA c x) v := by
  obtain ⟨cs, hcs, _⟩ := agg_of_array ht hv
  exact arg_agg ho ha hcs h
end
/-- A call from outside. -/
theorem call_top {P : Program} {f : FuncId} {args : List A} {nx' : Nat} {o' : Objs} {b : Bool} (h : CallOk P f args 0 [] 1 (.v (.bool b)) nx' o') (W : World) (vs : List Value) (ha : ∀ (F : Nat → Prop) (N : Nm) (nx : Nat), FB W F → HL F N nx W args vs) :
    Calls P f vs.toArray W fun e W' => e = .returned (.bool b) ∧ Below W.heap.size W W' := by
  have hr : HRel (fun b => b < W.heap.size) ⟨fun _ => 0, fun _ => .nilFunc⟩ 0 [] W := ⟨fun g hg => hg, fun i ob hi => (by cases hi), fun i ob g hi => (by cases hi), fun i j x y g hi => (by cases hi)⟩
  refine (h _ _ W vs hr (ha _ _ _ fun b hb => hb)).mono fun e W' ⟨y, F', N', he, _, _, hy, hb⟩ => ?_
  rw [hy.v_inv] at he
  exact ⟨he, hb (Nat.le_refl _)⟩
end Go.Proofs.Yteebobbhhgmeiaa
