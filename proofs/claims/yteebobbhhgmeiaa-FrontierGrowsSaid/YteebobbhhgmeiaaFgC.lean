/- FrontierGrows: what its run comes to is true. -/
import Derived.Test.YteebobbhhgmeiaaTc
import Derived.Test.YteebobbhhgmeiaaFgB
namespace Go.Proofs.Yteebobbhhgmeiaa
open Go.RowKit

def rightP (s : Int) (v : TVec) (f : TFront) (t : TTold) : Bool := (t.ack == f.stable && decide (t.own ≥ 0)) && decide (t.own ≤ camS s v)
theorem fg_inner {s : Int} (hs : s = 1 ∨ s = 2) (L : List TTold) (hL : L.length ≤ 300) (v : TVec) (f : TFront) :
    needX l23_FrontierGrows_l2_next l23_FrontierGrows_l2_goes l23_FrontierGrows_l2_ps (l23_FrontierGrows_l2_fuel (s, false, L, (L.length : Int), 0, v, f)) (s, false, L, (L.length : Int), 0, v, f) ∧
    l23_FrontierGrows_l2_run (s, false, L, (L.length : Int), 0, v, f) = (s, L.any (rightP s v f), L, (L.length : Int), (L.length : Int), v, f) := by
  have hc : ∀ t : TTold, (bif (IntKind.i64.wrap (2 - s)).toNat.beq 0 then v.1 else v.2) = camS s v := fun _ => by
    unfold camS
    rcases hs with rfl | rfl <;> rfl
  obtain ⟨h1, ⟨i, hi, h2⟩, h3⟩ := loop_inv (next := l23_FrontierGrows_l2_next) (goes := l23_FrontierGrows_l2_goes) (ps := l23_FrontierGrows_l2_ps)
    (fun x => ∃ i : Nat, i ≤ L.length ∧ x = (s, (L.take i).any (rightP s v f), L, (L.length : Int), (i : Int), v, f)) l23_FrontierGrows_l2_fuel (by
      rintro x ⟨i, hi, rfl⟩
      refine ⟨needs_cons (fun h => ?_) (needs_cons (fun _ _ _ => ix21 hs) needs_nil), fun hg => ?_⟩
      · have h' : (!!decide ((i : Int) < (L.length : Int))) = true := h
        have : (i : Int) < (L.length : Int) := by simpa using h'
        show (0 : Int) ≤ (i : Int) ∧ (i : Int) < (L.length : Int)
        exact ⟨by omega, this⟩
      · have h' : (!!decide ((i : Int) < (L.length : Int))) = true := hg
        have hlt : i < L.length := by simpa using h'
        have hw : IntKind.i64.wrap ((i : Int) + 1) = ((i + 1 : Nat) : Int) := by rw [i64_in (by omega)]; rfl
        refine ⟨⟨i + 1, hlt, ?_⟩, ?_⟩
        · show (s, ((L.take i).any (rightP s v f) || ((L.getD i (dflt TC.told)).1 == f.3 && decide ((L.getD i (dflt TC.told)).2 ≥ (0 : Int))) && decide ((L.getD i (dflt TC.told)).2 ≤ bif (IntKind.i64.wrap (2 - s)).toNat.beq 0 then v.1 else v.2)), L, (L.length : Int), IntKind.i64.wrap ((i : Int) + 1), v, f) = _
          rw [hw, hc (dflt TC.told), any_take _ L (dflt TC.told) i hlt]
          rfl
        · show ((L.length : Int) - IntKind.i64.wrap ((i : Int) + 1)).toNat < ((L.length : Int) - (i : Int)).toNat
          rw [hw]
          omega) _ (s, false, L, (L.length : Int), 0, v, f) ⟨0, Nat.zero_le _, by simp⟩ (Nat.le_refl _)
  refine ⟨h1, ?_⟩
  have h4 : l23_FrontierGrows_l2_run (s, false, L, (L.length : Int), 0, v, f) = _ := h2
  rw [h2] at h3
  have h3' : (!!decide ((i : Int) < (L.length : Int))) = false := h3
  have hn : ¬ ((i : Int) < (L.length : Int)) := by simpa using h3'
  obtain rfl : i = L.length := by omega
  rw [h4, List.take_length]

def mst (s c : Int) : TVec := if s = 2 then ⟨c, 1000⟩ else ⟨1000, c⟩
theorem cam_mst {s : Int} (hs : s = 1 ∨ s = 2) (c : Int) : camS s (mst s c) = c := by rcases hs with rfl | rfl <;> rfl
theorem min_mst {s : Int} (hs : s = 1 ∨ s = 2) (c : Int) : minS s (mst s c) = 1000 := by rcases hs with rfl | rfl <;> rfl
theorem mst_in {s : Int} (hs : s = 1 ∨ s = 2) {c : Int} (h : 0 ≤ c ∧ c ≤ 1000) : (0 ≤ (mst s c).a ∧ (mst s c).a ≤ 1099511627776) ∧ (0 ≤ (mst s c).b ∧ (mst s c).b ≤ 1099511627776) := by
  rcases hs with rfl | rfl
  · show (0 ≤ (1000 : Int) ∧ (1000 : Int) ≤ 1099511627776) ∧ (0 ≤ c ∧ c ≤ 1099511627776)
    omega
  · show (0 ≤ c ∧ c ≤ 1099511627776) ∧ (0 ≤ (1000 : Int) ∧ (1000 : Int) ≤ 1099511627776)
    omega
theorem stlS_site (f : TFront) (v : TVec) : (stlS f v).site = f.site := by unfold stlS; split <;> rfl
theorem stlS_acked (f : TFront) (v : TVec) : (stlS f v).acked = f.acked := by unfold stlS; split <;> rfl
/-- How far our own count comes. -/
def nxc (c : Int) (x : TTold) : Int := min 1000 (IntKind.i64.wrap (c + IntKind.i64.wrap ((IntKind.u64.wrap x.come).tmod 5)))
theorem nxc_ok {c : Int} (x : TTold) (h : 0 ≤ c ∧ c ≤ 1000) : c ≤ nxc c x ∧ nxc c x ≤ 1000 := by
  have h0 := u64_bounds x.come
  unfold nxc
  rw [Int.tmod_eq_emod_of_nonneg h0.1]
  generalize IntKind.u64.wrap x.come = m at *
  rw [i64_in (n := m % 5) (by omega), i64_in (by omega)]
  omega
/-- What a round makes of the front. -/
def rndF (f : TFront) (v : TVec) (x : TTold) : TFront := bif frontier_Learn_1 f v x.ack x.own != 0 then frontier_Settle_0 f v else frontier_Learn_0 f v x.ack x.own
theorem fg_front {s c : Int} (hs : s = 1 ∨ s = 2) {f : TFront} (hf : f.site = s) {l l' : List TTold} {x : TTold} (hl : ∀ y ∈ l, y ∈ l') (hx : x ∈ l') (h : FgI l f c) :
    FgS l' f.stable (nxc c x) (rndF f (mst s (nxc c x)) x) ∧ (rndF f (mst s (nxc c x)) x).site = s ∧
    (rndF f (mst s (nxc c x)) x).acked = (bif frontier_Learn_1 f (mst s (nxc c x)) x.ack x.own != 0 then f.acked else max f.acked x.ack) ∧
    (bif frontier_Learn_1 f (mst s (nxc c x)) x.ack x.own != 0 then frontier_Settle_1 f (mst s (nxc c x)) else frontier_Learn_1 f (mst s (nxc c x)) x.ack x.own) = 0 ∧
    (frontier_Learn_1 f (mst s (nxc c x)) x.ack x.own != 0 && (decide (x.ack ≥ 0) && decide (x.ack ≤ 1000) && decide (x.own ≥ 0) && decide (x.own ≤ 1099511627776))) = false := by
  have hc := nxc_ok x h.1
  generalize nxc c x = c' at *
  have hs' : f.site = 1 ∨ f.site = 2 := by rw [hf]; exact hs
  have hfa : frontier_fault_0 f (mst s c') = 0 := by
    have h1 := h.1
    have hb := mst_in hs (c := c') (by omega)
    exact fault_0 (fgI_good h hs') hb.1 hb.2
  have hcam : camS f.site (mst s c') = c' := by rw [hf]; exact cam_mst hs c'
  have hmin : minS f.site (mst s c') = 1000 := by rw [hf]; exact min_mst hs c'
  unfold rndF
  by_cases hok : LOk f (mst s c') x.ack x.own
  · have h1 := (learn_1 hfa hs').2 hok
    rw [h1]
    simp only [bne_self_eq_false, cond_false, Bool.false_and]
    rw [learn_0 hfa hs' hok]
    obtain ⟨g1, g2⟩ := fgS_learn hl hx h hc.1 hc.2 hcam hmin hok
    exact ⟨g1, by rw [stlS_site, lrnS_site, hf], g2, trivial, trivial⟩
  · have h1 : frontier_Learn_1 f (mst s c') x.ack x.own ≠ 0 := fun hh => hok ((learn_1 hfa hs').1 hh)
    have hb : (frontier_Learn_1 f (mst s c') x.ack x.own != 0) = true := by simpa using h1
    rw [hb]
    simp only [cond_true, Bool.true_and]
    rw [settle_0 hfa hs', settle_1 hfa]
    refine ⟨fgS_settle hl h hc.1 hc.2 hcam, by rw [stlS_site, hf], stlS_acked _ _, rfl, ?_⟩
    rw [Bool.eq_false_iff]
    intro hh
    simp only [Bool.and_eq_true, decide_eq_true_eq] at hh
    exact hok ⟨by omega, by rw [hmin]; omega, by omega, by omega⟩
theorem mk5 (b : Bool) (S T : TFront) : TFront.mk (bif b then S.1 else T.1) (bif b then S.2 else T.2) (bif b then S.3 else T.3) (bif b then S.4 else T.4) (bif b then S.5 else T.5) = bif b then S else T := by cases b <;> rfl
theorem prj5 {a b c d e : Int} {g : TFront} (h : TFront.mk a b c d e = g) : a = g.1 ∧ b = g.2 ∧ c = g.3 ∧ d = g.4 ∧ e = g.5 := by subst h; exact ⟨rfl, rfl, rfl, rfl, rfl⟩
theorem pick5 (b : Bool) (g : TFront) : TFront.mk (bif b then g.1 else g.1) (bif b then g.2 else g.2) (bif b then g.3 else g.3) (bif b then g.4 else g.4) (bif b then g.5 else g.5) = g := by cases b <;> rfl
theorem pick2 (b : Bool) (g : TVec) : TVec.mk (bif b then g.1 else g.1) (bif b then g.2 else g.2) = g := by cases b <;> rfl
theorem fg_most {s : Int} (hs : s = 1 ∨ s = 2) (c : Int) (L L2 : List TTold) (h n : Int) (i : Nat) (f : TFront) : l23_FrontierGrows_l0_f_k9 L s h L2 n (i : Int) f (mst s c) = mst s (nxc c (L2.getD i (dflt TC.told))) := by
  rcases hs with rfl | rfl <;> rfl

theorem fg_round {s c : Int} (hs : s = 1 ∨ s = 2) {L : List TTold} (hL : L.length ≤ 300) {i : Nat} (hi : i < L.length) {f : TFront} (hf : f.site = s) (h : FgI (L.take i) f c) :
    ∃ (g : TFront) (c' : Int), g.site = s ∧ FgI (L.take (i + 1)) g c' ∧
      l23_FrontierGrows_l0_f_k0 L s f.acked L (L.length : Int) (i : Int) f (mst s c) = false ∧
      l23_FrontierGrows_l0_next (L, s, f.acked, L, (L.length : Int), (i : Int), f, mst s c) = (L, s, g.acked, L, (L.length : Int), ((i + 1 : Nat) : Int), g, mst s c') ∧
      (∀ p ∈ l23_FrontierGrows_l0_ps (L, s, f.acked, L, (L.length : Int), (i : Int), f, mst s c), p) := by
  have hx : L.getD i (dflt TC.told) ∈ L.take (i + 1) := by
    rw [List.getD_eq_getElem?_getD, List.getElem?_eq_getElem hi, Option.getD_some]
    have : (L.take (i + 1))[i]? = some L[i] := by rw [List.getElem?_take_of_lt (by omega), List.getElem?_eq_getElem hi]
    exact List.mem_of_getElem? this
  have hl : ∀ y ∈ L.take i, y ∈ L.take (i + 1) := fun y hy => by
    rw [List.take_add_one]
    exact List.mem_append_left _ hy
  have hw : IntKind.i64.wrap ((i : Int) + 1) = ((i + 1 : Nat) : Int) := by rw [i64_in (by omega)]; rfl
  obtain ⟨g1, g2, g3, g4, g5⟩ := fg_front hs hf hl hx h
  have h9 := fg_most hs c L L f.acked (L.length : Int) i f
  have hgx : rndF f (mst s (nxc c (L.getD i (dflt TC.told)))) (L.getD i (dflt TC.told)) = bif frontier_Learn_1 f (mst s (nxc c (L.getD i (dflt TC.told)))) (L.getD i (dflt TC.told)).ack (L.getD i (dflt TC.told)).own != 0 then frontier_Settle_0 f (mst s (nxc c (L.getD i (dflt TC.told)))) else frontier_Learn_0 f (mst s (nxc c (L.getD i (dflt TC.told)))) (L.getD i (dflt TC.told)).ack (L.getD i (dflt TC.told)).own := rfl
  have hv : l23_FrontierGrows_l0_f_k9 L s f.acked L (L.length : Int) (i : Int) f (mst s c) = TVec.mk (l23_FrontierGrows_l0_f_k10 L s f.acked L (L.length : Int) (i : Int) f (mst s c)) (l23_FrontierGrows_l0_f_k11 L s f.acked L (L.length : Int) (i : Int) f (mst s c)) := rfl
  have hg := mk5 (frontier_Learn_1 f (l23_FrontierGrows_l0_f_k9 L s f.acked L (L.length : Int) (i : Int) f (mst s c)) (L.getD i (dflt TC.told)).ack (L.getD i (dflt TC.told)).own != 0) (frontier_Settle_0 f (l23_FrontierGrows_l0_f_k9 L s f.acked L (L.length : Int) (i : Int) f (mst s c))) (frontier_Learn_0 f (l23_FrontierGrows_l0_f_k9 L s f.acked L (L.length : Int) (i : Int) f (mst s c)) (L.getD i (dflt TC.told)).ack (L.getD i (dflt TC.told)).own)
  have hk : TFront.mk (l23_FrontierGrows_l0_f_k4 L s f.acked L (L.length : Int) (i : Int) f (mst s c)) (l23_FrontierGrows_l0_f_k5 L s f.acked L (L.length : Int) (i : Int) f (mst s c)) (l23_FrontierGrows_l0_f_k8 L s f.acked L (L.length : Int) (i : Int) f (mst s c)) (l23_FrontierGrows_l0_f_k7 L s f.acked L (L.length : Int) (i : Int) f (mst s c)) (l23_FrontierGrows_l0_f_k6 L s f.acked L (L.length : Int) (i : Int) f (mst s c)) = rndF f (mst s (nxc c (L.getD i (dflt TC.told)))) (L.getD i (dflt TC.told)) := by
    rw [hgx, ← h9]
    exact hg
  have hk3 : l23_FrontierGrows_l0_f_k3 L s f.acked L (L.length : Int) (i : Int) f (mst s c) = false := by
    show (frontier_Learn_1 f (l23_FrontierGrows_l0_f_k9 L s f.acked L (L.length : Int) (i : Int) f (mst s c)) (L.getD i (dflt TC.told)).ack (L.getD i (dflt TC.told)).own != 0 && _) = false
    rw [h9]
    exact g5
  obtain ⟨p1, p2, p3, p4, p5⟩ := prj5 hk
  have hk12 : l23_FrontierGrows_l0_f_k12 L s f.acked L (L.length : Int) (i : Int) f (mst s c) = L.take (i + 1) := by
    show List.take ((IntKind.i64.wrap ((i : Int) + 1)).toNat - 0) (List.drop 0 L) = _
    rw [hw]
    rfl
  have hf2 : l23_FrontierGrows_l0_f_2 L s f.acked L (L.length : Int) (i : Int) f (mst s c) = (rndF f (mst s (nxc c (L.getD i (dflt TC.told)))) (L.getD i (dflt TC.told))).acked := by
    show (bif frontier_Learn_1 f (l23_FrontierGrows_l0_f_k9 L s f.acked L (L.length : Int) (i : Int) f (mst s c)) (L.getD i (dflt TC.told)).ack (L.getD i (dflt TC.told)).own != 0 then f.acked else max f.acked (L.getD i (dflt TC.told)).ack) = _
    rw [h9, g3]
  have hk1 : l23_FrontierGrows_l0_f_k1 L s f.acked L (L.length : Int) (i : Int) f (mst s c) = false := by
    show ((((bif frontier_Learn_1 f (l23_FrontierGrows_l0_f_k9 L s f.acked L (L.length : Int) (i : Int) f (mst s c)) (L.getD i (dflt TC.told)).ack (L.getD i (dflt TC.told)).own != 0 then frontier_Settle_1 f (l23_FrontierGrows_l0_f_k9 L s f.acked L (L.length : Int) (i : Int) f (mst s c)) else frontier_Learn_1 f (l23_FrontierGrows_l0_f_k9 L s f.acked L (L.length : Int) (i : Int) f (mst s c)) (L.getD i (dflt TC.told)).ack (L.getD i (dflt TC.told)).own) != 0
      || decide (l23_FrontierGrows_l0_f_k8 L s f.acked L (L.length : Int) (i : Int) f (mst s c) < f.stable)) || decide (l23_FrontierGrows_l0_f_k8 L s f.acked L (L.length : Int) (i : Int) f (mst s c) > l23_FrontierGrows_l0_f_k5 L s f.acked L (L.length : Int) (i : Int) f (mst s c))) ||
      (l23_FrontierGrows_l0_f_k5 L s f.acked L (L.length : Int) (i : Int) f (mst s c) != l23_FrontierGrows_l0_f_2 L s f.acked L (L.length : Int) (i : Int) f (mst s c))) = false
    rw [hf2, p3, p2, h9, g4]
    obtain ⟨q1, q2, _⟩ := g1
    have e1 : decide ((rndF f (mst s (nxc c (L.getD i (dflt TC.told)))) (L.getD i (dflt TC.told))).stable < f.stable) = false := decide_eq_false (by omega)
    have e2 : decide ((rndF f (mst s (nxc c (L.getD i (dflt TC.told)))) (L.getD i (dflt TC.told))).stable > (rndF f (mst s (nxc c (L.getD i (dflt TC.told)))) (L.getD i (dflt TC.told))).acked) = false := decide_eq_false (by have := q1.2.1; omega)
    rw [e1, e2]
    simp
  have hlen : (L.take (i + 1)).length ≤ 300 := by rw [List.length_take]; omega
  obtain ⟨n1, n2⟩ := fg_inner hs (L.take (i + 1)) hlen (mst s (nxc c (L.getD i (dflt TC.told)))) (rndF f (mst s (nxc c (L.getD i (dflt TC.told)))) (L.getD i (dflt TC.told)))
  have hrun : l23_FrontierGrows_l2_run (s, false, l23_FrontierGrows_l0_f_k12 L s f.acked L (L.length : Int) (i : Int) f (mst s c), ((l23_FrontierGrows_l0_f_k12 L s f.acked L (L.length : Int) (i : Int) f (mst s c)).length : Int), 0, l23_FrontierGrows_l0_f_k9 L s f.acked L (L.length : Int) (i : Int) f (mst s c), TFront.mk (l23_FrontierGrows_l0_f_k4 L s f.acked L (L.length : Int) (i : Int) f (mst s c)) (l23_FrontierGrows_l0_f_k5 L s f.acked L (L.length : Int) (i : Int) f (mst s c)) (l23_FrontierGrows_l0_f_k8 L s f.acked L (L.length : Int) (i : Int) f (mst s c)) (l23_FrontierGrows_l0_f_k7 L s f.acked L (L.length : Int) (i : Int) f (mst s c)) (l23_FrontierGrows_l0_f_k6 L s f.acked L (L.length : Int) (i : Int) f (mst s c))) = (s, (L.take (i + 1)).any (rightP s (mst s (nxc c (L.getD i (dflt TC.told)))) (rndF f (mst s (nxc c (L.getD i (dflt TC.told)))) (L.getD i (dflt TC.told)))), L.take (i + 1), ((L.take (i + 1)).length : Int), ((L.take (i + 1)).length : Int), mst s (nxc c (L.getD i (dflt TC.told))), rndF f (mst s (nxc c (L.getD i (dflt TC.told)))) (L.getD i (dflt TC.told))) := by
    rw [hk12, hk, h9]
    exact n2
  have hk2 : l23_FrontierGrows_l0_f_k2 L s f.acked L (L.length : Int) (i : Int) f (mst s c) = true → (L.take (i + 1)).any (rightP s (mst s (nxc c (L.getD i (dflt TC.told)))) (rndF f (mst s (nxc c (L.getD i (dflt TC.told)))) (L.getD i (dflt TC.told)))) = true := fun hh => by
    have hh' : decide (l23_FrontierGrows_l0_f_k8 L s f.acked L (L.length : Int) (i : Int) f (mst s c) > f.stable) = true := hh
    rw [p3] at hh'
    obtain ⟨y, hy, y1, y2, y3⟩ := g1.2.2 (by simpa using hh')
    refine List.any_eq_true.2 ⟨y, hy, ?_⟩
    unfold rightP
    rw [cam_mst hs, y1, decide_eq_true y2, decide_eq_true y3]
    simp
  refine ⟨rndF f (mst s (nxc c (L.getD i (dflt TC.told)))) (L.getD i (dflt TC.told)), nxc c (L.getD i (dflt TC.told)), g2, g1.1, ?_, ?_, ?_⟩
  · unfold l23_FrontierGrows_l0_f_k0
    rw [hrun, hk3, hk1]
    cases h2 : l23_FrontierGrows_l0_f_k2 L s f.acked L (L.length : Int) (i : Int) f (mst s c) with
    | false => simp
    | true =>
      show (!!decide ((i : Int) < (L.length : Int)) && (false || (false || true && !((L.take (i + 1)).any (rightP s (mst s (nxc c (L.getD i (dflt TC.told)))) (rndF f (mst s (nxc c (L.getD i (dflt TC.told)))) (L.getD i (dflt TC.told)))))))) = false
      rw [hk2 h2]
      simp
  · show (L, s, l23_FrontierGrows_l0_f_2 L s f.acked L (L.length : Int) (i : Int) f (mst s c), L, (L.length : Int), IntKind.i64.wrap ((i : Int) + 1), l23_FrontierGrows_l0_f_6 L s f.acked L (L.length : Int) (i : Int) f (mst s c), l23_FrontierGrows_l0_f_7 L s f.acked L (L.length : Int) (i : Int) f (mst s c)) = _
    have h6 : l23_FrontierGrows_l0_f_6 L s f.acked L (L.length : Int) (i : Int) f (mst s c) = rndF f (mst s (nxc c (L.getD i (dflt TC.told)))) (L.getD i (dflt TC.told)) := by
      unfold l23_FrontierGrows_l0_f_6
      rw [hrun, p1, p2, p3, p4, p5]
      exact pick5 _ _
    have h7 : l23_FrontierGrows_l0_f_7 L s f.acked L (L.length : Int) (i : Int) f (mst s c) = mst s (nxc c (L.getD i (dflt TC.told))) := by
      have e1 : l23_FrontierGrows_l0_f_k10 L s f.acked L (L.length : Int) (i : Int) f (mst s c) = (mst s (nxc c (L.getD i (dflt TC.told)))).1 := by rw [← h9]; rfl
      have e2 : l23_FrontierGrows_l0_f_k11 L s f.acked L (L.length : Int) (i : Int) f (mst s c) = (mst s (nxc c (L.getD i (dflt TC.told)))).2 := by rw [← h9]; rfl
      unfold l23_FrontierGrows_l0_f_7
      rw [hrun, e1, e2]
      exact pick2 _ _
    rw [hf2, hw, h6, h7]
  · refine needs_cons (fun _ => (by show (0 : Int) ≤ (i : Int) ∧ (i : Int) < (L.length : Int); omega)) (needs_cons (fun _ => ix21 hs) (needs_cons (fun _ _ _ _ => ⟨Int.le_refl _, ?_, ?_⟩) (needs_cons (fun _ _ _ _ => ?_) needs_nil)))
    · show 0 ≤ IntKind.i64.wrap ((i : Int) + 1)
      rw [hw]; omega
    · show IntKind.i64.wrap ((i : Int) + 1) ≤ (L.length : Int)
      rw [hw]; omega
    · rw [hk12, h9, hk]
      exact n1
theorem fg_outer {s : Int} (hs : s = 1 ∨ s = 2) (L : List TTold) (hL : L.length ≤ 300) (f0 : TFront) (h0 : f0 = ⟨s, 0, 0, 0, 0⟩) :
    needX l23_FrontierGrows_l0_next l23_FrontierGrows_l0_goes l23_FrontierGrows_l0_ps (l23_FrontierGrows_l0_fuel (L, s, 0, L, (L.length : Int), 0, f0, mst s 0)) (L, s, 0, L, (L.length : Int), 0, f0, mst s 0) ∧
    ∃ (i : Nat) (f : TFront) (c : Int), l23_FrontierGrows_l0_run (L, s, 0, L, (L.length : Int), 0, f0, mst s 0) = (L, s, f.acked, L, (L.length : Int), (i : Int), f, mst s c) ∧ L.length ≤ i := by
  obtain ⟨h1, ⟨i, f, c, hi, hf, hI, h2⟩, h3⟩ := loop_inv (next := l23_FrontierGrows_l0_next) (goes := l23_FrontierGrows_l0_goes) (ps := l23_FrontierGrows_l0_ps)
    (fun x => ∃ (i : Nat) (f : TFront) (c : Int), i ≤ L.length ∧ f.site = s ∧ FgI (L.take i) f c ∧ x = (L, s, f.acked, L, (L.length : Int), (i : Int), f, mst s c)) l23_FrontierGrows_l0_fuel (by
      rintro x ⟨i, f, c, hi, hf, hI, rfl⟩
      by_cases hlt : i < L.length
      · obtain ⟨g, c', q1, q2, q3, q4, q5⟩ := fg_round hs hL hlt hf hI
        refine ⟨q5, fun _ => ⟨⟨i + 1, g, c', hlt, q1, q2, q4⟩, ?_⟩⟩
        rw [q4]
        show ((L.length : Int) - ((i + 1 : Nat) : Int)).toNat < ((L.length : Int) - (i : Int)).toNat
        omega
      · have hd : decide ((i : Int) < (L.length : Int)) = false := decide_eq_false (by omega)
        have no : (!!decide ((i : Int) < (L.length : Int))) = true → False := by rw [hd]; decide
        refine ⟨needs_cons (fun h => (no h).elim) (needs_cons (fun h => (no h).elim) (needs_cons (fun h => (no h).elim) (needs_cons (fun h => (no h).elim) needs_nil))), fun hg => ?_⟩
        have hg' : (!!decide ((i : Int) < (L.length : Int)) && !(l23_FrontierGrows_l0_f_k0 L s f.acked L (L.length : Int) (i : Int) f (mst s c))) = true := hg
        rw [hd] at hg'
        cases hg') _ (L, s, 0, L, (L.length : Int), 0, f0, mst s 0) ⟨0, f0, 0, Nat.zero_le _, by rw [h0], by
          rw [h0]
          refine ⟨by omega, ?_, ?_, ?_, ?_, fun _ => rfl, fun hh => ?_⟩ <;> dsimp only at * <;> omega, by rw [h0]; rfl⟩ (Nat.le_refl _)
  refine ⟨h1, i, f, c, h2, ?_⟩
  rw [h2] at h3
  have h3' : (!!decide ((i : Int) < (L.length : Int)) && !(l23_FrontierGrows_l0_f_k0 L s f.acked L (L.length : Int) (i : Int) f (mst s c))) = false := h3
  by_cases hlt : i < L.length
  · obtain ⟨_, _, _, _, q3, _, _⟩ := fg_round hs hL hlt hf hI
    rw [q3, decide_eq_true (by omega : (i : Int) < (L.length : Int))] at h3'
    cases h3'
  · omega
theorem fg_new {s : Int} (hs : s = 1 ∨ s = 2) : frontier_New_0 s = ⟨s, 0, 0, 0, 0⟩ ∧ frontier_New_1 s = 0 := by
  rcases hs with rfl | rfl <;> exact ⟨rfl, rfl⟩
theorem fg_k10 (site : Int) (L : List TTold) : l23_FrontierGrows_k10 site L = 1 ∨ l23_FrontierGrows_k10 site L = 2 := by
  have h0 := u64_bounds site
  show IntKind.i64.wrap (1 + IntKind.i64.wrap ((IntKind.u64.wrap site).tmod 2)) = 1 ∨ IntKind.i64.wrap (1 + IntKind.i64.wrap ((IntKind.u64.wrap site).tmod 2)) = 2
  rw [Int.tmod_eq_emod_of_nonneg h0.1]
  generalize IntKind.u64.wrap site = m at *
  rw [i64_in (n := m % 2) (by omega), i64_in (by omega)]
  omega
theorem fg_mst {s : Int} (hs : s = 1 ∨ s = 2) : TVec.mk (bif (IntKind.i64.wrap (2 - s)).toNat.beq 0 then (0 : Int) else 1000) (bif (IntKind.i64.wrap (2 - s)).toNat.beq 1 then (0 : Int) else 1000) = mst s 0 := by
  rcases hs with rfl | rfl <;> rfl
theorem fg_true (site : Int) (L : List TTold) : (∀ p ∈ l23_FrontierGrows_ps site L, p) ∧ l23_FrontierGrows_0 site L = true := by
  have hs := fg_k10 site L
  obtain ⟨n1, n2⟩ := fg_new hs
  have hm := fg_mst hs
  have key : l23_FrontierGrows_k8 site L = false → L.length ≤ 300 := fun h => by
    have h' : (frontier_New_1 (l23_FrontierGrows_k10 site L) != 0 || decide ((L.length : Int) > 300)) = false := h
    rw [n2] at h'
    have : ¬ ((L.length : Int) > 300) := by simpa using h'
    omega
  refine ⟨needs_cons (fun _ => ix21 hs) (needs_cons (fun h => ?_) needs_nil), ?_⟩
  · have h8 : l23_FrontierGrows_k8 site L = false := by simpa using h
    have := (fg_outer hs L (key h8) _ n1).1
    rw [← hm] at this
    exact this
  · cases h8 : l23_FrontierGrows_k8 site L with
    | true =>
      show (bif l23_FrontierGrows_k8 site L then frontier_New_1 (l23_FrontierGrows_k10 site L) == 0 && true else _) = true
      rw [h8, n2]; rfl
    | false =>
      obtain ⟨_, i, f, c, hr, hi⟩ := fg_outer hs L (key h8) _ n1
      rw [← hm] at hr
      have hd : decide ((i : Int) < (L.length : Int)) = false := decide_eq_false (by omega)
      have e : ∀ x : l23_FrontierGrows_l0_X, l23_FrontierGrows_l0_run (L, l23_FrontierGrows_k10 site L, 0, L, (L.length : Int), 0, frontier_New_0 (l23_FrontierGrows_k10 site L), TVec.mk (bif (l23_FrontierGrows_k9 site L).toNat.beq 0 then (0 : Int) else 1000) (bif (l23_FrontierGrows_k9 site L).toNat.beq 1 then (0 : Int) else 1000)) = x →
          l23_FrontierGrows_0 site L = bif l23_FrontierGrows_k8 site L then frontier_New_1 (l23_FrontierGrows_k10 site L) == 0 && true else bif l23_FrontierGrows_l0_f_k0 x.1 x.2.1 x.2.2.1 x.2.2.2.1 x.2.2.2.2.1 x.2.2.2.2.2.1 x.2.2.2.2.2.2.1 x.2.2.2.2.2.2.2 then l23_FrontierGrows_l0_f_26 x.1 x.2.1 x.2.2.1 x.2.2.2.1 x.2.2.2.2.1 x.2.2.2.2.2.1 x.2.2.2.2.2.2.1 x.2.2.2.2.2.2.2 else true := fun x hx => by
        subst hx
        rfl
      rw [e _ hr, h8]
      show (bif l23_FrontierGrows_l0_f_k0 L (l23_FrontierGrows_k10 site L) f.acked L (L.length : Int) (i : Int) f (mst (l23_FrontierGrows_k10 site L) c) then _ else true) = true
      have hk : l23_FrontierGrows_l0_f_k0 L (l23_FrontierGrows_k10 site L) f.acked L (L.length : Int) (i : Int) f (mst (l23_FrontierGrows_k10 site L) c) = false := by
        unfold l23_FrontierGrows_l0_f_k0
        rw [hd]; rfl
      rw [hk]; rfl
end Go.Proofs.Yteebobbhhgmeiaa
