/- Typed data: cells read back are the data's own cells. -/
import Derived.Test.YteebobbhhgmeiaaTA
namespace Go.Proofs.Yteebobbhhgmeiaa
open Go.RowKit
section
variable (F : Nat → Prop) (N : Nm) (nx : Nat) (R : World)
/-- What is said by the one list is said by the other. -/
def HLs (l l' : List A) : Prop := ∀ vs, HL F N nx R l vs → HL F N nx R l' vs
variable {F : Nat → Prop} {N : Nm} {nx : Nat} {R : World}
theorem HLs.refl (l : List A) : HLs F N nx R l l := fun _ h => h
theorem HLs.cons {l r r' : List A} {x : A} (h : HLs F N nx R l (x :: r)) (k : HLs F N nx R r r') : HLs F N nx R l (x :: r') := fun vs hv => by
  obtain ⟨v, us, rfl, h1, h2⟩ := (h vs hv).inv
  exact HL.cons h1 (k us h2)
theorem thn_some {α β : Type} {g : Got α} {f : α → List A → List Prop → Option β} {y : β} (h : g.thn f = some y) : ∃ x r ps, g = some (x, r, ps) ∧ f x r ps = some y := by
  unfold Got.thn at h
  split at h <;> first | (cases h; done) | skip
  exact ⟨_, _, _, rfl, h⟩
theorem fin_some {α : Type} {r : List A} {x y : α} {ps qs : List Prop} (h : fin r x ps = some (y, qs)) : r = [] ∧ x = y ∧ ps = qs := by
  unfold fin at h
  split at h <;> first | (cases h; done) | skip
  cases h
  exact ⟨rfl, rfl, rfl⟩
theorem gI_hl {l r : List A} {ps qs : List Prop} {n : Int} (h : gI l ps = some (n, r, qs)) (hq : ∀ q ∈ qs, q) : (∀ q ∈ ps, q) ∧ HLs F N nx R l (.v (.int .i64 n) :: r) := by
  obtain ⟨rfl, rfl⟩ := gI_ok h; exact ⟨hq, .refl _⟩
theorem gW_hl {l r : List A} {ps qs : List Prop} {n : Int} (h : gW l ps = some (n, r, qs)) (hq : ∀ q ∈ qs, q) : (∀ q ∈ ps, q) ∧ HLs F N nx R l (.v (.int .u32 n) :: r) := by
  obtain ⟨rfl, rfl⟩ := gW_ok h; exact ⟨hq, .refl _⟩
theorem gB_hl {l r : List A} {ps qs : List Prop} {n : Bool} (h : gB l ps = some (n, r, qs)) (hq : ∀ q ∈ qs, q) : (∀ q ∈ ps, q) ∧ HLs F N nx R l (.v (.bool n) :: r) := by
  obtain ⟨rfl, rfl⟩ := gB_ok h; exact ⟨hq, .refl _⟩
theorem gT_hl {l r : List A} {ps qs : List Prop} {n : ByteArray} (h : gT l ps = some (n, r, qs)) (hq : ∀ q ∈ qs, q) : (∀ q ∈ ps, q) ∧ HLs F N nx R l (.v (.string n) :: r) := by
  obtain ⟨rfl, rfl⟩ := gT_ok h; exact ⟨hq, .refl _⟩
theorem gU_hl {l r : List A} {ps qs : List Prop} {n : UInt8} (h : gU l ps = some (n, r, qs)) (hq : ∀ q ∈ qs, q) : (∀ q ∈ ps, q) ∧ HLs F N nx R l (.v (byteV n) :: r) := by
  obtain ⟨rfl, h2⟩ := gU_ok h hq; exact ⟨h2, .refl _⟩
theorem gL_hl {c : TC} {l r : List A} {ps qs : List Prop} {n : List (U c)} (h : gL c l ps = some (n, r, qs)) (hq : ∀ q ∈ qs, q) : (∀ q ∈ ps, q) ∧ HLs F N nx R l (.sl c n :: r) := by
  obtain ⟨h1, rfl⟩ := gL_ok h
  refine ⟨hq, ?_⟩
  rcases h1 with rfl | ⟨rfl | rfl, rfl⟩
  · exact .refl _
  · intro vs hv
    obtain ⟨v, us, rfl, h1, h2⟩ := hv.inv
    exact HL.cons (Hv.sl_nil (a := none) h1.v_inv) h2
  · intro vs hv
    obtain ⟨v, us, rfl, h1, h2⟩ := hv.inv
    obtain ⟨a, e⟩ := h1.nl_inv
    exact HL.cons (Hv.sl_nil e) h2
theorem dec_ok {c : TC} {cs : List A} {d : U c} {ps : List Prop} (h : dec c cs = some (d, ps)) (hp : ∀ p ∈ ps, p) : HLs F N nx R cs (enc c d) := by
  cases c with
  | u8 =>
    unfold dec at h
    obtain ⟨x0, r0, p0, h0, h⟩ := thn_some h
    obtain ⟨e0, e1, e2⟩ := fin_some h
    subst e0 e1 e2
    obtain ⟨hp, s0⟩ := gU_hl (F := F) (N := N) (nx := nx) (R := R) h0 hp
    exact s0.cons (.refl _)
  | i64 =>
    unfold dec at h
    obtain ⟨x0, r0, p0, h0, h⟩ := thn_some h
    obtain ⟨e0, e1, e2⟩ := fin_some h
    subst e0 e1 e2
    obtain ⟨hp, s0⟩ := gI_hl (F := F) (N := N) (nx := nx) (R := R) h0 hp
    exact s0.cons (.refl _)
  | u32 =>
    unfold dec at h
    obtain ⟨x0, r0, p0, h0, h⟩ := thn_some h
    obtain ⟨e0, e1, e2⟩ := fin_some h
    subst e0 e1 e2
    obtain ⟨hp, s0⟩ := gW_hl (F := F) (N := N) (nx := nx) (R := R) h0 hp
    exact s0.cons (.refl _)
  | bool =>
    unfold dec at h
    obtain ⟨x0, r0, p0, h0, h⟩ := thn_some h
    obtain ⟨e0, e1, e2⟩ := fin_some h
    subst e0 e1 e2
    obtain ⟨hp, s0⟩ := gB_hl (F := F) (N := N) (nx := nx) (R := R) h0 hp
    exact s0.cons (.refl _)
  | str =>
    unfold dec at h
    obtain ⟨x0, r0, p0, h0, h⟩ := thn_some h
    obtain ⟨e0, e1, e2⟩ := fin_some h
    subst e0 e1 e2
    obtain ⟨hp, s0⟩ := gT_hl (F := F) (N := N) (nx := nx) (R := R) h0 hp
    exact s0.cons (.refl _)
  | vec =>
    unfold dec at h
    obtain ⟨x0, r0, p0, h0, h⟩ := thn_some h
    obtain ⟨x1, r1, p1, h1, h⟩ := thn_some h
    obtain ⟨e0, e1, e2⟩ := fin_some h
    subst e0 e1 e2
    obtain ⟨hp, s1⟩ := gI_hl (F := F) (N := N) (nx := nx) (R := R) h1 hp
    obtain ⟨hp, s0⟩ := gI_hl (F := F) (N := N) (nx := nx) (R := R) h0 hp
    exact s0.cons (s1.cons (.refl _))
  | stamp =>
    unfold dec at h
    obtain ⟨x0, r0, p0, h0, h⟩ := thn_some h
    obtain ⟨x1, r1, p1, h1, h⟩ := thn_some h
    obtain ⟨e0, e1, e2⟩ := fin_some h
    subst e0 e1 e2
    obtain ⟨hp, s1⟩ := gI_hl (F := F) (N := N) (nx := nx) (R := R) h1 hp
    obtain ⟨hp, s0⟩ := gI_hl (F := F) (N := N) (nx := nx) (R := R) h0 hp
    exact s0.cons (s1.cons (.refl _))
  | cell =>
    unfold dec at h
    obtain ⟨x0, r0, p0, h0, h⟩ := thn_some h
    obtain ⟨x1, r1, p1, h1, h⟩ := thn_some h
    obtain ⟨x2, r2, p2, h2, h⟩ := thn_some h
    obtain ⟨x3, r3, p3, h3, h⟩ := thn_some h
    obtain ⟨x4, r4, p4, h4, h⟩ := thn_some h
    obtain ⟨x5, r5, p5, h5, h⟩ := thn_some h
    obtain ⟨x6, r6, p6, h6, h⟩ := thn_some h
    obtain ⟨x7, r7, p7, h7, h⟩ := thn_some h
    obtain ⟨e0, e1, e2⟩ := fin_some h
    subst e0 e1 e2
    obtain ⟨hp, s7⟩ := gI_hl (F := F) (N := N) (nx := nx) (R := R) h7 hp
    obtain ⟨hp, s6⟩ := gI_hl (F := F) (N := N) (nx := nx) (R := R) h6 hp
    obtain ⟨hp, s5⟩ := gT_hl (F := F) (N := N) (nx := nx) (R := R) h5 hp
    obtain ⟨hp, s4⟩ := gB_hl (F := F) (N := N) (nx := nx) (R := R) h4 hp
    obtain ⟨hp, s3⟩ := gI_hl (F := F) (N := N) (nx := nx) (R := R) h3 hp
    obtain ⟨hp, s2⟩ := gI_hl (F := F) (N := N) (nx := nx) (R := R) h2 hp
    obtain ⟨hp, s1⟩ := gI_hl (F := F) (N := N) (nx := nx) (R := R) h1 hp
    obtain ⟨hp, s0⟩ := gI_hl (F := F) (N := N) (nx := nx) (R := R) h0 hp
    exact s0.cons (s1.cons (s2.cons (s3.cons (s4.cons (s5.cons (s6.cons (s7.cons (.refl _))))))))
  | row =>
    unfold dec at h
    obtain ⟨x0, r0, p0, h0, h⟩ := thn_some h
    obtain ⟨x1, r1, p1, h1, h⟩ := thn_some h
    obtain ⟨e0, e1, e2⟩ := fin_some h
    subst e0 e1 e2
    obtain ⟨hp, s1⟩ := gL_hl (F := F) (N := N) (nx := nx) (R := R) h1 hp
    obtain ⟨hp, s0⟩ := gT_hl (F := F) (N := N) (nx := nx) (R := R) h0 hp
    exact s0.cons (s1.cons (.refl _))
  | group =>
    unfold dec at h
    obtain ⟨x0, r0, p0, h0, h⟩ := thn_some h
    obtain ⟨x1, r1, p1, h1, h⟩ := thn_some h
    obtain ⟨e0, e1, e2⟩ := fin_some h
    subst e0 e1 e2
    obtain ⟨hp, s1⟩ := gI_hl (F := F) (N := N) (nx := nx) (R := R) h1 hp
    obtain ⟨hp, s0⟩ := gT_hl (F := F) (N := N) (nx := nx) (R := R) h0 hp
    exact s0.cons (s1.cons (.refl _))
  | write =>
    unfold dec at h
    obtain ⟨x0, r0, p0, h0, h⟩ := thn_some h
    obtain ⟨x1, r1, p1, h1, h⟩ := thn_some h
    obtain ⟨x2, r2, p2, h2, h⟩ := thn_some h
    obtain ⟨x3, r3, p3, h3, h⟩ := thn_some h
    obtain ⟨e0, e1, e2⟩ := fin_some h
    subst e0 e1 e2
    obtain ⟨hp, s3⟩ := gT_hl (F := F) (N := N) (nx := nx) (R := R) h3 hp
    obtain ⟨hp, s2⟩ := gB_hl (F := F) (N := N) (nx := nx) (R := R) h2 hp
    obtain ⟨hp, s1⟩ := gI_hl (F := F) (N := N) (nx := nx) (R := R) h1 hp
    obtain ⟨hp, s0⟩ := gT_hl (F := F) (N := N) (nx := nx) (R := R) h0 hp
    exact s0.cons (s1.cons (s2.cons (s3.cons (.refl _))))
  | change =>
    unfold dec at h
    obtain ⟨x0, r0, p0, h0, h⟩ := thn_some h
    obtain ⟨x1, r1, p1, h1, h⟩ := thn_some h
    obtain ⟨x2, r2, p2, h2, h⟩ := thn_some h
    obtain ⟨x3, r3, p3, h3, h⟩ := thn_some h
    obtain ⟨x4, r4, p4, h4, h⟩ := thn_some h
    obtain ⟨x5, r5, p5, h5, h⟩ := thn_some h
    obtain ⟨x6, r6, p6, h6, h⟩ := thn_some h
    obtain ⟨e0, e1, e2⟩ := fin_some h
    subst e0 e1 e2
    obtain ⟨hp, s6⟩ := gL_hl (F := F) (N := N) (nx := nx) (R := R) h6 hp
    obtain ⟨hp, s5⟩ := gI_hl (F := F) (N := N) (nx := nx) (R := R) h5 hp
    obtain ⟨hp, s4⟩ := gI_hl (F := F) (N := N) (nx := nx) (R := R) h4 hp
    obtain ⟨hp, s3⟩ := gI_hl (F := F) (N := N) (nx := nx) (R := R) h3 hp
    obtain ⟨hp, s2⟩ := gI_hl (F := F) (N := N) (nx := nx) (R := R) h2 hp
    obtain ⟨hp, s1⟩ := gI_hl (F := F) (N := N) (nx := nx) (R := R) h1 hp
    obtain ⟨hp, s0⟩ := gI_hl (F := F) (N := N) (nx := nx) (R := R) h0 hp
    exact s0.cons (s1.cons (s2.cons (s3.cons (s4.cons (s5.cons (s6.cons (.refl _)))))))
  | field =>
    unfold dec at h
    obtain ⟨x0, r0, p0, h0, h⟩ := thn_some h
    obtain ⟨x1, r1, p1, h1, h⟩ := thn_some h
    obtain ⟨e0, e1, e2⟩ := fin_some h
    subst e0 e1 e2
    obtain ⟨hp, s1⟩ := gT_hl (F := F) (N := N) (nx := nx) (R := R) h1 hp
    obtain ⟨hp, s0⟩ := gI_hl (F := F) (N := N) (nx := nx) (R := R) h0 hp
    exact s0.cons (s1.cons (.refl _))
  | view =>
    unfold dec at h
    obtain ⟨x0, r0, p0, h0, h⟩ := thn_some h
    obtain ⟨x1, r1, p1, h1, h⟩ := thn_some h
    obtain ⟨e0, e1, e2⟩ := fin_some h
    subst e0 e1 e2
    obtain ⟨hp, s1⟩ := gL_hl (F := F) (N := N) (nx := nx) (R := R) h1 hp
    obtain ⟨hp, s0⟩ := gT_hl (F := F) (N := N) (nx := nx) (R := R) h0 hp
    exact s0.cons (s1.cons (.refl _))
  | told =>
    unfold dec at h
    obtain ⟨x0, r0, p0, h0, h⟩ := thn_some h
    obtain ⟨x1, r1, p1, h1, h⟩ := thn_some h
    obtain ⟨x2, r2, p2, h2, h⟩ := thn_some h
    obtain ⟨e0, e1, e2⟩ := fin_some h
    subst e0 e1 e2
    obtain ⟨hp, s2⟩ := gI_hl (F := F) (N := N) (nx := nx) (R := R) h2 hp
    obtain ⟨hp, s1⟩ := gI_hl (F := F) (N := N) (nx := nx) (R := R) h1 hp
    obtain ⟨hp, s0⟩ := gI_hl (F := F) (N := N) (nx := nx) (R := R) h0 hp
    exact s0.cons (s1.cons (s2.cons (.refl _)))
  | act =>
    unfold dec at h
    obtain ⟨x0, r0, p0, h0, h⟩ := thn_some h
    obtain ⟨x1, r1, p1, h1, h⟩ := thn_some h
    obtain ⟨x2, r2, p2, h2, h⟩ := thn_some h
    obtain ⟨x3, r3, p3, h3, h⟩ := thn_some h
    obtain ⟨x4, r4, p4, h4, h⟩ := thn_some h
    obtain ⟨e0, e1, e2⟩ := fin_some h
    subst e0 e1 e2
    obtain ⟨hp, s4⟩ := gI_hl (F := F) (N := N) (nx := nx) (R := R) h4 hp
    obtain ⟨hp, s3⟩ := gT_hl (F := F) (N := N) (nx := nx) (R := R) h3 hp
    obtain ⟨hp, s2⟩ := gL_hl (F := F) (N := N) (nx := nx) (R := R) h2 hp
    obtain ⟨hp, s1⟩ := gT_hl (F := F) (N := N) (nx := nx) (R := R) h1 hp
    obtain ⟨hp, s0⟩ := gI_hl (F := F) (N := N) (nx := nx) (R := R) h0 hp
    exact s0.cons (s1.cons (s2.cons (s3.cons (s4.cons (.refl _)))))
  | front =>
    unfold dec at h
    obtain ⟨x0, r0, p0, h0, h⟩ := thn_some h
    obtain ⟨x1, r1, p1, h1, h⟩ := thn_some h
    obtain ⟨x2, r2, p2, h2, h⟩ := thn_some h
    obtain ⟨x3, r3, p3, h3, h⟩ := thn_some h
    obtain ⟨x4, r4, p4, h4, h⟩ := thn_some h
    obtain ⟨e0, e1, e2⟩ := fin_some h
    subst e0 e1 e2
    obtain ⟨hp, s4⟩ := gI_hl (F := F) (N := N) (nx := nx) (R := R) h4 hp
    obtain ⟨hp, s3⟩ := gI_hl (F := F) (N := N) (nx := nx) (R := R) h3 hp
    obtain ⟨hp, s2⟩ := gI_hl (F := F) (N := N) (nx := nx) (R := R) h2 hp
    obtain ⟨hp, s1⟩ := gI_hl (F := F) (N := N) (nx := nx) (R := R) h1 hp
    obtain ⟨hp, s0⟩ := gI_hl (F := F) (N := N) (nx := nx) (R := R) h0 hp
    exact s0.cons (s1.cons (s2.cons (s3.cons (s4.cons (.refl _)))))
  | ask =>
    unfold dec at h
    obtain ⟨x0, r0, p0, h0, h⟩ := thn_some h
    obtain ⟨x1, r1, p1, h1, h⟩ := thn_some h
    obtain ⟨x2, r2, p2, h2, h⟩ := thn_some h
    obtain ⟨x3, r3, p3, h3, h⟩ := thn_some h
    obtain ⟨x4, r4, p4, h4, h⟩ := thn_some h
    obtain ⟨x5, r5, p5, h5, h⟩ := thn_some h
    obtain ⟨e0, e1, e2⟩ := fin_some h
    subst e0 e1 e2
    obtain ⟨hp, s5⟩ := gT_hl (F := F) (N := N) (nx := nx) (R := R) h5 hp
    obtain ⟨hp, s4⟩ := gB_hl (F := F) (N := N) (nx := nx) (R := R) h4 hp
    obtain ⟨hp, s3⟩ := gI_hl (F := F) (N := N) (nx := nx) (R := R) h3 hp
    obtain ⟨hp, s2⟩ := gI_hl (F := F) (N := N) (nx := nx) (R := R) h2 hp
    obtain ⟨hp, s1⟩ := gI_hl (F := F) (N := N) (nx := nx) (R := R) h1 hp
    obtain ⟨hp, s0⟩ := gI_hl (F := F) (N := N) (nx := nx) (R := R) h0 hp
    exact s0.cons (s1.cons (s2.cons (s3.cons (s4.cons (s5.cons (.refl _))))))
  | two =>
    unfold dec at h
    obtain ⟨x0, r0, p0, h0, h⟩ := thn_some h
    obtain ⟨x1, r1, p1, h1, h⟩ := thn_some h
    obtain ⟨x2, r2, p2, h2, h⟩ := thn_some h
    obtain ⟨x3, r3, p3, h3, h⟩ := thn_some h
    obtain ⟨x4, r4, p4, h4, h⟩ := thn_some h
    obtain ⟨x5, r5, p5, h5, h⟩ := thn_some h
    obtain ⟨x6, r6, p6, h6, h⟩ := thn_some h
    obtain ⟨x7, r7, p7, h7, h⟩ := thn_some h
    obtain ⟨x8, r8, p8, h8, h⟩ := thn_some h
    obtain ⟨x9, r9, p9, h9, h⟩ := thn_some h
    obtain ⟨x10, r10, p10, h10, h⟩ := thn_some h
    obtain ⟨e0, e1, e2⟩ := fin_some h
    subst e0 e1 e2
    obtain ⟨hp, s10⟩ := gI_hl (F := F) (N := N) (nx := nx) (R := R) h10 hp
    obtain ⟨hp, s9⟩ := gI_hl (F := F) (N := N) (nx := nx) (R := R) h9 hp
    obtain ⟨hp, s8⟩ := gT_hl (F := F) (N := N) (nx := nx) (R := R) h8 hp
    obtain ⟨hp, s7⟩ := gB_hl (F := F) (N := N) (nx := nx) (R := R) h7 hp
    obtain ⟨hp, s6⟩ := gI_hl (F := F) (N := N) (nx := nx) (R := R) h6 hp
    obtain ⟨hp, s5⟩ := gI_hl (F := F) (N := N) (nx := nx) (R := R) h5 hp
    obtain ⟨hp, s4⟩ := gI_hl (F := F) (N := N) (nx := nx) (R := R) h4 hp
    obtain ⟨hp, s3⟩ := gI_hl (F := F) (N := N) (nx := nx) (R := R) h3 hp
    obtain ⟨hp, s2⟩ := gI_hl (F := F) (N := N) (nx := nx) (R := R) h2 hp
    obtain ⟨hp, s1⟩ := gL_hl (F := F) (N := N) (nx := nx) (R := R) h1 hp
    obtain ⟨hp, s0⟩ := gT_hl (F := F) (N := N) (nx := nx) (R := R) h0 hp
    exact s0.cons (s1.cons (s2.cons (s3.cons (s4.cons (s5.cons (s6.cons (s7.cons (s8.cons (s9.cons (s10.cons (.refl _)))))))))))
  | note =>
    unfold dec at h
    obtain ⟨x0, r0, p0, h0, h⟩ := thn_some h
    obtain ⟨x1, r1, p1, h1, h⟩ := thn_some h
    obtain ⟨e0, e1, e2⟩ := fin_some h
    subst e0 e1 e2
    obtain ⟨hp, s1⟩ := gT_hl (F := F) (N := N) (nx := nx) (R := R) h1 hp
    obtain ⟨hp, s0⟩ := gT_hl (F := F) (N := N) (nx := nx) (R := R) h0 hp
    exact s0.cons (s1.cons (.refl _))
  | packet =>
    unfold dec at h
    obtain ⟨x0, r0, p0, h0, h⟩ := thn_some h
    obtain ⟨x1, r1, p1, h1, h⟩ := thn_some h
    obtain ⟨e0, e1, e2⟩ := fin_some h
    subst e0 e1 e2
    obtain ⟨hp, s1⟩ := gT_hl (F := F) (N := N) (nx := nx) (R := R) h1 hp
    obtain ⟨hp, s0⟩ := gI_hl (F := F) (N := N) (nx := nx) (R := R) h0 hp
    exact s0.cons (s1.cons (.refl _))
  | place =>
    unfold dec at h
    obtain ⟨x0, r0, p0, h0, h⟩ := thn_some h
    obtain ⟨x1, r1, p1, h1, h⟩ := thn_some h
    obtain ⟨e0, e1, e2⟩ := fin_some h
    subst e0 e1 e2
    obtain ⟨hp, s1⟩ := gI_hl (F := F) (N := N) (nx := nx) (R := R) h1 hp
    obtain ⟨hp, s0⟩ := gT_hl (F := F) (N := N) (nx := nx) (R := R) h0 hp
    exact s0.cons (s1.cons (.refl _))
  | bytes =>
    unfold dec at h
    obtain ⟨x0, r0, p0, h0, h⟩ := thn_some h
    obtain ⟨e0, e1, e2⟩ := fin_some h
    subst e0 e1 e2
    obtain ⟨hp, s0⟩ := gL_hl (F := F) (N := N) (nx := nx) (R := R) h0 hp
    exact s0.cons (.refl _)
  | ints =>
    unfold dec at h
    obtain ⟨x0, r0, p0, h0, h⟩ := thn_some h
    obtain ⟨e0, e1, e2⟩ := fin_some h
    subst e0 e1 e2
    obtain ⟨hp, s0⟩ := gL_hl (F := F) (N := N) (nx := nx) (R := R) h0 hp
    exact s0.cons (.refl _)
  | cells =>
    unfold dec at h
    obtain ⟨x0, r0, p0, h0, h⟩ := thn_some h
    obtain ⟨e0, e1, e2⟩ := fin_some h
    subst e0 e1 e2
    obtain ⟨hp, s0⟩ := gL_hl (F := F) (N := N) (nx := nx) (R := R) h0 hp
    exact s0.cons (.refl _)
  | rows =>
    unfold dec at h
    obtain ⟨x0, r0, p0, h0, h⟩ := thn_some h
    obtain ⟨e0, e1, e2⟩ := fin_some h
    subst e0 e1 e2
    obtain ⟨hp, s0⟩ := gL_hl (F := F) (N := N) (nx := nx) (R := R) h0 hp
    exact s0.cons (.refl _)
  | digest =>
    unfold dec at h
    obtain ⟨x0, r0, p0, h0, h⟩ := thn_some h
    obtain ⟨x1, r1, p1, h1, h⟩ := thn_some h
    obtain ⟨x2, r2, p2, h2, h⟩ := thn_some h
    obtain ⟨x3, r3, p3, h3, h⟩ := thn_some h
    obtain ⟨x4, r4, p4, h4, h⟩ := thn_some h
    obtain ⟨x5, r5, p5, h5, h⟩ := thn_some h
    obtain ⟨x6, r6, p6, h6, h⟩ := thn_some h
    obtain ⟨x7, r7, p7, h7, h⟩ := thn_some h
    obtain ⟨x8, r8, p8, h8, h⟩ := thn_some h
    obtain ⟨x9, r9, p9, h9, h⟩ := thn_some h
    obtain ⟨x10, r10, p10, h10, h⟩ := thn_some h
    obtain ⟨x11, r11, p11, h11, h⟩ := thn_some h
    obtain ⟨x12, r12, p12, h12, h⟩ := thn_some h
    obtain ⟨x13, r13, p13, h13, h⟩ := thn_some h
    obtain ⟨x14, r14, p14, h14, h⟩ := thn_some h
    obtain ⟨x15, r15, p15, h15, h⟩ := thn_some h
    obtain ⟨x16, r16, p16, h16, h⟩ := thn_some h
    obtain ⟨x17, r17, p17, h17, h⟩ := thn_some h
    obtain ⟨x18, r18, p18, h18, h⟩ := thn_some h
    obtain ⟨x19, r19, p19, h19, h⟩ := thn_some h
    obtain ⟨x20, r20, p20, h20, h⟩ := thn_some h
    obtain ⟨x21, r21, p21, h21, h⟩ := thn_some h
    obtain ⟨x22, r22, p22, h22, h⟩ := thn_some h
    obtain ⟨x23, r23, p23, h23, h⟩ := thn_some h
    obtain ⟨x24, r24, p24, h24, h⟩ := thn_some h
    obtain ⟨x25, r25, p25, h25, h⟩ := thn_some h
    obtain ⟨x26, r26, p26, h26, h⟩ := thn_some h
    obtain ⟨x27, r27, p27, h27, h⟩ := thn_some h
    obtain ⟨x28, r28, p28, h28, h⟩ := thn_some h
    obtain ⟨x29, r29, p29, h29, h⟩ := thn_some h
    obtain ⟨x30, r30, p30, h30, h⟩ := thn_some h
    obtain ⟨x31, r31, p31, h31, h⟩ := thn_some h
    obtain ⟨e0, e1, e2⟩ := fin_some h
    subst e0 e1 e2
    obtain ⟨hp, s31⟩ := gU_hl (F := F) (N := N) (nx := nx) (R := R) h31 hp
    obtain ⟨hp, s30⟩ := gU_hl (F := F) (N := N) (nx := nx) (R := R) h30 hp
    obtain ⟨hp, s29⟩ := gU_hl (F := F) (N := N) (nx := nx) (R := R) h29 hp
    obtain ⟨hp, s28⟩ := gU_hl (F := F) (N := N) (nx := nx) (R := R) h28 hp
    obtain ⟨hp, s27⟩ := gU_hl (F := F) (N := N) (nx := nx) (R := R) h27 hp
    obtain ⟨hp, s26⟩ := gU_hl (F := F) (N := N) (nx := nx) (R := R) h26 hp
    obtain ⟨hp, s25⟩ := gU_hl (F := F) (N := N) (nx := nx) (R := R) h25 hp
    obtain ⟨hp, s24⟩ := gU_hl (F := F) (N := N) (nx := nx) (R := R) h24 hp
    obtain ⟨hp, s23⟩ := gU_hl (F := F) (N := N) (nx := nx) (R := R) h23 hp
    obtain ⟨hp, s22⟩ := gU_hl (F := F) (N := N) (nx := nx) (R := R) h22 hp
    obtain ⟨hp, s21⟩ := gU_hl (F := F) (N := N) (nx := nx) (R := R) h21 hp
    obtain ⟨hp, s20⟩ := gU_hl (F := F) (N := N) (nx := nx) (R := R) h20 hp
    obtain ⟨hp, s19⟩ := gU_hl (F := F) (N := N) (nx := nx) (R := R) h19 hp
    obtain ⟨hp, s18⟩ := gU_hl (F := F) (N := N) (nx := nx) (R := R) h18 hp
    obtain ⟨hp, s17⟩ := gU_hl (F := F) (N := N) (nx := nx) (R := R) h17 hp
    obtain ⟨hp, s16⟩ := gU_hl (F := F) (N := N) (nx := nx) (R := R) h16 hp
    obtain ⟨hp, s15⟩ := gU_hl (F := F) (N := N) (nx := nx) (R := R) h15 hp
    obtain ⟨hp, s14⟩ := gU_hl (F := F) (N := N) (nx := nx) (R := R) h14 hp
    obtain ⟨hp, s13⟩ := gU_hl (F := F) (N := N) (nx := nx) (R := R) h13 hp
    obtain ⟨hp, s12⟩ := gU_hl (F := F) (N := N) (nx := nx) (R := R) h12 hp
    obtain ⟨hp, s11⟩ := gU_hl (F := F) (N := N) (nx := nx) (R := R) h11 hp
    obtain ⟨hp, s10⟩ := gU_hl (F := F) (N := N) (nx := nx) (R := R) h10 hp
    obtain ⟨hp, s9⟩ := gU_hl (F := F) (N := N) (nx := nx) (R := R) h9 hp
    obtain ⟨hp, s8⟩ := gU_hl (F := F) (N := N) (nx := nx) (R := R) h8 hp
    obtain ⟨hp, s7⟩ := gU_hl (F := F) (N := N) (nx := nx) (R := R) h7 hp
    obtain ⟨hp, s6⟩ := gU_hl (F := F) (N := N) (nx := nx) (R := R) h6 hp
    obtain ⟨hp, s5⟩ := gU_hl (F := F) (N := N) (nx := nx) (R := R) h5 hp
    obtain ⟨hp, s4⟩ := gU_hl (F := F) (N := N) (nx := nx) (R := R) h4 hp
    obtain ⟨hp, s3⟩ := gU_hl (F := F) (N := N) (nx := nx) (R := R) h3 hp
    obtain ⟨hp, s2⟩ := gU_hl (F := F) (N := N) (nx := nx) (R := R) h2 hp
    obtain ⟨hp, s1⟩ := gU_hl (F := F) (N := N) (nx := nx) (R := R) h1 hp
    obtain ⟨hp, s0⟩ := gU_hl (F := F) (N := N) (nx := nx) (R := R) h0 hp
    exact s0.cons (s1.cons (s2.cons (s3.cons (s4.cons (s5.cons (s6.cons (s7.cons (s8.cons (s9.cons (s10.cons (s11.cons (s12.cons (s13.cons (s14.cons (s15.cons (s16.cons (s17.cons (s18.cons (s19.cons (s20.cons (s21.cons (s22.cons (s23.cons (s24.cons (s25.cons (s26.cons (s27.cons (s28.cons (s29.cons (s30.cons (s31.cons (.refl _))))))))))))))))))))))))))))))))
end
end Go.Proofs.Yteebobbhhgmeiaa
