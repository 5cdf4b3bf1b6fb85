/- A symbolic run over typed data, part W: what holds of a loop, in plain Lean. -/
import Derived.Test.YteebobbhhgmeiaaTX
import Derived.IntWalk
namespace Go.Proofs.Yteebobbhhgmeiaa
open Go.RowKit

/-- **A loop's invariant.** -/
theorem loop_inv {X : Type} {next : X → X} {goes : X → Cnd} {ps : X → List Prop} (I : X → Prop) (m : X → Nat) (h : ∀ x, I x → (∀ p ∈ ps x, p) ∧ (cval (goes x) = true → I (next x) ∧ m (next x) < m x)) :
    ∀ (n : Nat) (x : X), I x → m x ≤ n → needX next goes ps n x ∧ I (iterX next goes n x) ∧ cval (goes (iterX next goes n x)) = false
  | 0, x, hi, hm => by
    obtain ⟨h1, h2⟩ := h x hi
    have hg : cval (goes x) = false := by
      cases hc : cval (goes x) with
      | false => rfl
      | true => have := (h2 hc).2; omega
    exact ⟨⟨h1, hg⟩, hi, hg⟩
  | n + 1, x, hi, hm => by
    obtain ⟨h1, h2⟩ := h x hi
    cases hc : cval (goes x) with
    | false =>
      have e : iterX next goes (n + 1) x = x := by
        show (bif cval (goes x) then _ else x) = x
        rw [hc]; rfl
      rw [e]
      exact ⟨⟨h1, fun hh => by rw [hc] at hh; cases hh⟩, hi, hc⟩
    | true =>
      have e : iterX next goes (n + 1) x = iterX next goes n (next x) := by
        show (bif cval (goes x) then _ else x) = _
        rw [hc]; rfl
      obtain ⟨h3, h4⟩ := h2 hc
      obtain ⟨g1, g2, g3⟩ := loop_inv I m h n (next x) h3 (by omega)
      rw [e]
      exact ⟨⟨h1, fun _ => g1⟩, g2, g3⟩
theorem i64_in {n : Int} (h : -9223372036854775808 ≤ n ∧ n ≤ 9223372036854775807) : IntKind.i64.wrap n = n := IntWalk.i64_in n h
theorem u64_bounds (n : Int) : 0 ≤ IntKind.u64.wrap n ∧ IntKind.u64.wrap n ≤ 18446744073709551615 := by
  have := wrap_within .u64 n
  simpa [IntKind.min, IntKind.max, IntKind.signed, IntKind.bits] using this
theorem any_take {α : Type} (p : α → Bool) (l : List α) (d : α) (i : Nat) (h : i < l.length) : (l.take (i + 1)).any p = ((l.take i).any p || p (l.getD i d)) := by
  rw [List.take_add_one, List.any_append, List.getD_eq_getElem?_getD, List.getElem?_eq_getElem h]
  simp
end Go.Proofs.Yteebobbhhgmeiaa
