/- made by a program (opn.py): what is read at the types is typed data. -/
import Derived.Test.YteebobbhhgmeiaaTX
import Derived.Test.YteebobbhhgmeiaaTS
namespace Go.Proofs.Yteebobbhhgmeiaa
open Go.RowKit
set_option maxRecDepth 100000

theorem op2 : Opn Try.prog .i64 2 := opn_i64 Try.underlying2
theorem op3 : Opn Try.prog .i64 3 := opn_i64 Try.underlying3
theorem op4 : Opn Try.prog .bool 4 := opn_bool Try.underlying4
theorem op5 : Opn Try.prog .u8 5 := opn_u8 Try.underlying5
theorem op9 : Opn Try.prog .str 9 := opn_str Try.underlying9
theorem op33 : Opn Try.prog .told 33 := fun en w base spare held m cs y h => by
  obtain ⟨xs, n, _, _, hl, hz, hg⟩ := DataW.trod_struct Try.underlying33 h
  have hz : xs.length = 3 := hz
  have hl : cs.length = 3 := hl.trans (by kernel_rfl)
  obtain ⟨x0, w0, g0⟩ := fldO (i := 0) (o := 0) (k := 1) op3 rfl rfl rfl (by kernel_rfl) (by omega) hg
  obtain ⟨x1, w1, g1⟩ := fldO (i := 1) (o := 1) (k := 1) op3 rfl rfl rfl (by kernel_rfl) (by omega) hg
  obtain ⟨x2, w2, g2⟩ := fldO (i := 2) (o := 2) (k := 1) op3 rfl rfl rfl (by kernel_rfl) (by omega) hg
  exact ⟨⟨x0, x1, x2⟩, ⟨w0, w1, w2⟩, fun F N nx hF => HLd (o := 0) (k := 1) (g0 F N nx hF) (HLd (o := 1) (k := 1) (g1 F N nx hF) (HLd (o := 2) (k := 1) (g2 F N nx hF) (HLe (o := 3) hl)))⟩
theorem opL22 : OpnLs Try.prog .told 22 := opn_list Try.underlying22 (by kernel_rfl) op33
theorem op25 : Opn Try.prog .front 25 := fun en w base spare held m cs y h => by
  obtain ⟨xs, n, _, _, hl, hz, hg⟩ := DataW.trod_struct Try.underlying25 h
  have hz : xs.length = 5 := hz
  have hl : cs.length = 5 := hl.trans (by kernel_rfl)
  obtain ⟨x0, w0, g0⟩ := fldO (i := 0) (o := 0) (k := 1) op3 rfl rfl rfl (by kernel_rfl) (by omega) hg
  obtain ⟨x1, w1, g1⟩ := fldO (i := 1) (o := 1) (k := 1) op3 rfl rfl rfl (by kernel_rfl) (by omega) hg
  obtain ⟨x2, w2, g2⟩ := fldO (i := 2) (o := 2) (k := 1) op3 rfl rfl rfl (by kernel_rfl) (by omega) hg
  obtain ⟨x3, w3, g3⟩ := fldO (i := 3) (o := 3) (k := 1) op3 rfl rfl rfl (by kernel_rfl) (by omega) hg
  obtain ⟨x4, w4, g4⟩ := fldO (i := 4) (o := 4) (k := 1) op3 rfl rfl rfl (by kernel_rfl) (by omega) hg
  exact ⟨⟨x0, x1, x2, x3, x4⟩, ⟨w0, w1, w2, w3, w4⟩, fun F N nx hF => HLd (o := 0) (k := 1) (g0 F N nx hF) (HLd (o := 1) (k := 1) (g1 F N nx hF) (HLd (o := 2) (k := 1) (g2 F N nx hF) (HLd (o := 3) (k := 1) (g3 F N nx hF) (HLd (o := 4) (k := 1) (g4 F N nx hF) (HLe (o := 5) hl)))))⟩
theorem op26 : Opn Try.prog .i64 26 := opn_i64 Try.underlying26
theorem op30 : Opn Try.prog .vec 30 := fun en w base spare held m cs y h => by
  obtain ⟨xs, n, _, _, hl, hz, hg⟩ := DataW.trod_array Try.underlying30 h
  have hl : cs.length = 2 := hl.trans (by kernel_rfl)
  obtain ⟨x0, w0, g0⟩ := arrO (i := 0) (k := 1) op3 (by kernel_rfl) (by omega) (by omega) hg
  obtain ⟨x1, w1, g1⟩ := arrO (i := 1) (k := 1) op3 (by kernel_rfl) (by omega) (by omega) hg
  exact ⟨⟨x0, x1⟩, ⟨w0, w1⟩, fun F N nx hF => HLd (o := 0) (k := 1) (g0 F N nx hF) (HLd (o := 1) (k := 1) (g1 F N nx hF) (HLe (o := 2) hl))⟩
theorem op31 : Opn Try.prog .vec 31 := fun en w base spare held m cs y h => by
  obtain ⟨xs, n, _, _, hl, hz, hg⟩ := DataW.trod_array Try.underlying31 h
  have hl : cs.length = 2 := hl.trans (by kernel_rfl)
  obtain ⟨x0, w0, g0⟩ := arrO (i := 0) (k := 1) op3 (by kernel_rfl) (by omega) (by omega) hg
  obtain ⟨x1, w1, g1⟩ := arrO (i := 1) (k := 1) op3 (by kernel_rfl) (by omega) (by omega) hg
  exact ⟨⟨x0, x1⟩, ⟨w0, w1⟩, fun F N nx hF => HLd (o := 0) (k := 1) (g0 F N nx hF) (HLd (o := 1) (k := 1) (g1 F N nx hF) (HLe (o := 2) hl))⟩
theorem op37 : Opn Try.prog .front 37 := fun en w base spare held m cs y h => by
  obtain ⟨xs, n, _, _, hl, hz, hg⟩ := DataW.trod_struct Try.underlying37 h
  have hz : xs.length = 5 := hz
  have hl : cs.length = 5 := hl.trans (by kernel_rfl)
  obtain ⟨x0, w0, g0⟩ := fldO (i := 0) (o := 0) (k := 1) op3 rfl rfl rfl (by kernel_rfl) (by omega) hg
  obtain ⟨x1, w1, g1⟩ := fldO (i := 1) (o := 1) (k := 1) op3 rfl rfl rfl (by kernel_rfl) (by omega) hg
  obtain ⟨x2, w2, g2⟩ := fldO (i := 2) (o := 2) (k := 1) op3 rfl rfl rfl (by kernel_rfl) (by omega) hg
  obtain ⟨x3, w3, g3⟩ := fldO (i := 3) (o := 3) (k := 1) op3 rfl rfl rfl (by kernel_rfl) (by omega) hg
  obtain ⟨x4, w4, g4⟩ := fldO (i := 4) (o := 4) (k := 1) op3 rfl rfl rfl (by kernel_rfl) (by omega) hg
  exact ⟨⟨x0, x1, x2, x3, x4⟩, ⟨w0, w1, w2, w3, w4⟩, fun F N nx hF => HLd (o := 0) (k := 1) (g0 F N nx hF) (HLd (o := 1) (k := 1) (g1 F N nx hF) (HLd (o := 2) (k := 1) (g2 F N nx hF) (HLd (o := 3) (k := 1) (g3 F N nx hF) (HLd (o := 4) (k := 1) (g4 F N nx hF) (HLe (o := 5) hl)))))⟩
theorem op51 : Opn Try.prog .stamp 51 := fun en w base spare held m cs y h => by
  obtain ⟨xs, n, _, _, hl, hz, hg⟩ := DataW.trod_struct Try.underlying51 h
  have hz : xs.length = 2 := hz
  have hl : cs.length = 2 := hl.trans (by kernel_rfl)
  obtain ⟨x0, w0, g0⟩ := fldO (i := 0) (o := 0) (k := 1) op3 rfl rfl rfl (by kernel_rfl) (by omega) hg
  obtain ⟨x1, w1, g1⟩ := fldO (i := 1) (o := 1) (k := 1) op3 rfl rfl rfl (by kernel_rfl) (by omega) hg
  exact ⟨⟨x0, x1⟩, ⟨w0, w1⟩, fun F N nx hF => HLd (o := 0) (k := 1) (g0 F N nx hF) (HLd (o := 1) (k := 1) (g1 F N nx hF) (HLe (o := 2) hl))⟩
theorem op53 : Opn Try.prog .ask 53 := fun en w base spare held m cs y h => by
  obtain ⟨xs, n, _, _, hl, hz, hg⟩ := DataW.trod_struct Try.underlying53 h
  have hz : xs.length = 4 := hz
  have hl : cs.length = 6 := hl.trans (by kernel_rfl)
  obtain ⟨x0, w0, g0⟩ := fldO (i := 0) (o := 0) (k := 2) op51 rfl rfl rfl (by kernel_rfl) (by omega) hg
  obtain ⟨x1, w1, g1⟩ := fldO (i := 1) (o := 2) (k := 2) op31 rfl rfl rfl (by kernel_rfl) (by omega) hg
  obtain ⟨x2, w2, g2⟩ := fldO (i := 2) (o := 4) (k := 1) op4 rfl rfl rfl (by kernel_rfl) (by omega) hg
  obtain ⟨x3, w3, g3⟩ := fldO (i := 3) (o := 5) (k := 1) op9 rfl rfl rfl (by kernel_rfl) (by omega) hg
  exact ⟨⟨x0, x1, x2, x3⟩, ⟨w0, w1, w2, w3⟩, fun F N nx hF => HLd (o := 0) (k := 2) (g0 F N nx hF) (HLd (o := 2) (k := 2) (g1 F N nx hF) (HLd (o := 4) (k := 1) (g2 F N nx hF) (HLd (o := 5) (k := 1) (g3 F N nx hF) (HLe (o := 6) hl))))⟩
theorem op55 : Opn Try.prog .cell 55 := fun en w base spare held m cs y h => by
  obtain ⟨xs, n, _, _, hl, hz, hg⟩ := DataW.trod_struct Try.underlying55 h
  have hz : xs.length = 5 := hz
  have hl : cs.length = 8 := hl.trans (by kernel_rfl)
  obtain ⟨x0, w0, g0⟩ := fldO (i := 0) (o := 0) (k := 2) op51 rfl rfl rfl (by kernel_rfl) (by omega) hg
  obtain ⟨x1, w1, g1⟩ := fldO (i := 1) (o := 2) (k := 2) op31 rfl rfl rfl (by kernel_rfl) (by omega) hg
  obtain ⟨x2, w2, g2⟩ := fldO (i := 2) (o := 4) (k := 1) op4 rfl rfl rfl (by kernel_rfl) (by omega) hg
  obtain ⟨x3, w3, g3⟩ := fldO (i := 3) (o := 5) (k := 1) op9 rfl rfl rfl (by kernel_rfl) (by omega) hg
  obtain ⟨x4, w4, g4⟩ := fldO (i := 4) (o := 6) (k := 2) op31 rfl rfl rfl (by kernel_rfl) (by omega) hg
  exact ⟨⟨x0, x1, x2, x3, x4⟩, ⟨w0, w1, w2, w3, w4⟩, fun F N nx hF => HLd (o := 0) (k := 2) (g0 F N nx hF) (HLd (o := 2) (k := 2) (g1 F N nx hF) (HLd (o := 4) (k := 1) (g2 F N nx hF) (HLd (o := 5) (k := 1) (g3 F N nx hF) (HLd (o := 6) (k := 2) (g4 F N nx hF) (HLe (o := 8) hl)))))⟩
theorem op79 : Opn Try.prog .group 79 := fun en w base spare held m cs y h => by
  obtain ⟨xs, n, _, _, hl, hz, hg⟩ := DataW.trod_struct Try.underlying79 h
  have hz : xs.length = 2 := hz
  have hl : cs.length = 2 := hl.trans (by kernel_rfl)
  obtain ⟨x0, w0, g0⟩ := fldO (i := 0) (o := 0) (k := 1) op9 rfl rfl rfl (by kernel_rfl) (by omega) hg
  obtain ⟨x1, w1, g1⟩ := fldO (i := 1) (o := 1) (k := 1) op3 rfl rfl rfl (by kernel_rfl) (by omega) hg
  exact ⟨⟨x0, x1⟩, ⟨w0, w1⟩, fun F N nx hF => HLd (o := 0) (k := 1) (g0 F N nx hF) (HLd (o := 1) (k := 1) (g1 F N nx hF) (HLe (o := 2) hl))⟩
theorem opL66 : OpnLs Try.prog .group 66 := opn_list Try.underlying66 (by kernel_rfl) op79
theorem opL69 : OpnLs Try.prog .cell 69 := opn_list Try.underlying69 (by kernel_rfl) op55
theorem op71 : Opn Try.prog .row 71 := fun en w base spare held m cs y h => by
  obtain ⟨xs, n, _, _, hl, hz, hg⟩ := DataW.trod_struct Try.underlying71 h
  have hz : xs.length = 2 := hz
  have hl : cs.length = 2 := hl.trans (by kernel_rfl)
  obtain ⟨x0, w0, g0⟩ := fldO (i := 0) (o := 0) (k := 1) op9 rfl rfl rfl (by kernel_rfl) (by omega) hg
  obtain ⟨x1, w1, g1⟩ := fldL (i := 1) (o := 1) (k := 1) opL69 rfl rfl rfl (by kernel_rfl) (by omega) hg
  exact ⟨⟨x0, x1⟩, ⟨w0, w1⟩, fun F N nx hF => HLd (o := 0) (k := 1) (g0 F N nx hF) (HLd (o := 1) (k := 1) (g1 F N nx hF) (HLe (o := 2) hl))⟩
theorem opL67 : OpnLs Try.prog .row 67 := opn_list Try.underlying67 (by kernel_rfl) op71
theorem op67 : Opn Try.prog .rows 67 := fun en w base spare held m cs y h => by
  obtain ⟨l, h1, h2⟩ := opL67 en w base spare held m cs y h
  exact ⟨l, h1, h2⟩
theorem op69 : Opn Try.prog .cells 69 := fun en w base spare held m cs y h => by
  obtain ⟨l, h1, h2⟩ := opL69 en w base spare held m cs y h
  exact ⟨l, h1, h2⟩
theorem opL84 : OpnLs Try.prog .u8 84 := opn_list Try.underlying84 (by kernel_rfl) op5
theorem op84 : Opn Try.prog .bytes 84 := fun en w base spare held m cs y h => by
  obtain ⟨l, h1, h2⟩ := opL84 en w base spare held m cs y h
  exact ⟨l, h1, h2⟩
theorem op142 : Opn Try.prog .field 142 := fun en w base spare held m cs y h => by
  obtain ⟨xs, n, _, _, hl, hz, hg⟩ := DataW.trod_struct Try.underlying142 h
  have hz : xs.length = 2 := hz
  have hl : cs.length = 2 := hl.trans (by kernel_rfl)
  obtain ⟨x0, w0, g0⟩ := fldO (i := 0) (o := 0) (k := 1) op3 rfl rfl rfl (by kernel_rfl) (by omega) hg
  obtain ⟨x1, w1, g1⟩ := fldO (i := 1) (o := 1) (k := 1) op9 rfl rfl rfl (by kernel_rfl) (by omega) hg
  exact ⟨⟨x0, x1⟩, ⟨w0, w1⟩, fun F N nx hF => HLd (o := 0) (k := 1) (g0 F N nx hF) (HLd (o := 1) (k := 1) (g1 F N nx hF) (HLe (o := 2) hl))⟩
theorem opL92 : OpnLs Try.prog .field 92 := opn_list Try.underlying92 (by kernel_rfl) op142
theorem op94 : Opn Try.prog .view 94 := fun en w base spare held m cs y h => by
  obtain ⟨xs, n, _, _, hl, hz, hg⟩ := DataW.trod_struct Try.underlying94 h
  have hz : xs.length = 2 := hz
  have hl : cs.length = 2 := hl.trans (by kernel_rfl)
  obtain ⟨x0, w0, g0⟩ := fldO (i := 0) (o := 0) (k := 1) op9 rfl rfl rfl (by kernel_rfl) (by omega) hg
  obtain ⟨x1, w1, g1⟩ := fldL (i := 1) (o := 1) (k := 1) opL92 rfl rfl rfl (by kernel_rfl) (by omega) hg
  exact ⟨⟨x0, x1⟩, ⟨w0, w1⟩, fun F N nx hF => HLd (o := 0) (k := 1) (g0 F N nx hF) (HLd (o := 1) (k := 1) (g1 F N nx hF) (HLe (o := 2) hl))⟩
theorem op112 : Opn Try.prog .two 112 := fun en w base spare held m cs y h => by
  obtain ⟨xs, n, _, _, hl, hz, hg⟩ := DataW.trod_struct Try.underlying112 h
  have hz : xs.length = 3 := hz
  have hl : cs.length = 11 := hl.trans (by kernel_rfl)
  obtain ⟨x0, w0, g0⟩ := fldO (i := 0) (o := 0) (k := 2) op71 rfl rfl rfl (by kernel_rfl) (by omega) hg
  obtain ⟨x1, w1, g1⟩ := fldO (i := 1) (o := 2) (k := 1) op3 rfl rfl rfl (by kernel_rfl) (by omega) hg
  obtain ⟨x2, w2, g2⟩ := fldO (i := 2) (o := 3) (k := 8) op55 rfl rfl rfl (by kernel_rfl) (by omega) hg
  exact ⟨⟨x0, x1, x2⟩, ⟨w0, w1, w2⟩, fun F N nx hF => HLd (o := 0) (k := 2) (g0 F N nx hF) (HLd (o := 2) (k := 1) (g1 F N nx hF) (HLd (o := 3) (k := 8) (g2 F N nx hF) (HLe (o := 11) hl)))⟩
theorem op139 : Opn Try.prog .write 139 := fun en w base spare held m cs y h => by
  obtain ⟨xs, n, _, _, hl, hz, hg⟩ := DataW.trod_struct Try.underlying139 h
  have hz : xs.length = 4 := hz
  have hl : cs.length = 4 := hl.trans (by kernel_rfl)
  obtain ⟨x0, w0, g0⟩ := fldO (i := 0) (o := 0) (k := 1) op9 rfl rfl rfl (by kernel_rfl) (by omega) hg
  obtain ⟨x1, w1, g1⟩ := fldO (i := 1) (o := 1) (k := 1) op3 rfl rfl rfl (by kernel_rfl) (by omega) hg
  obtain ⟨x2, w2, g2⟩ := fldO (i := 2) (o := 2) (k := 1) op4 rfl rfl rfl (by kernel_rfl) (by omega) hg
  obtain ⟨x3, w3, g3⟩ := fldO (i := 3) (o := 3) (k := 1) op9 rfl rfl rfl (by kernel_rfl) (by omega) hg
  exact ⟨⟨x0, x1, x2, x3⟩, ⟨w0, w1, w2, w3⟩, fun F N nx hF => HLd (o := 0) (k := 1) (g0 F N nx hF) (HLd (o := 1) (k := 1) (g1 F N nx hF) (HLd (o := 2) (k := 1) (g2 F N nx hF) (HLd (o := 3) (k := 1) (g3 F N nx hF) (HLe (o := 4) hl))))⟩
theorem opL134 : OpnLs Try.prog .write 134 := opn_list Try.underlying134 (by kernel_rfl) op139
theorem op136 : Opn Try.prog .change 136 := fun en w base spare held m cs y h => by
  obtain ⟨xs, n, _, _, hl, hz, hg⟩ := DataW.trod_struct Try.underlying136 h
  have hz : xs.length = 5 := hz
  have hl : cs.length = 7 := hl.trans (by kernel_rfl)
  obtain ⟨x0, w0, g0⟩ := fldO (i := 0) (o := 0) (k := 1) op3 rfl rfl rfl (by kernel_rfl) (by omega) hg
  obtain ⟨x1, w1, g1⟩ := fldO (i := 1) (o := 1) (k := 1) op3 rfl rfl rfl (by kernel_rfl) (by omega) hg
  obtain ⟨x2, w2, g2⟩ := fldO (i := 2) (o := 2) (k := 2) op51 rfl rfl rfl (by kernel_rfl) (by omega) hg
  obtain ⟨x3, w3, g3⟩ := fldO (i := 3) (o := 4) (k := 2) op31 rfl rfl rfl (by kernel_rfl) (by omega) hg
  obtain ⟨x4, w4, g4⟩ := fldL (i := 4) (o := 6) (k := 1) opL134 rfl rfl rfl (by kernel_rfl) (by omega) hg
  exact ⟨⟨x0, x1, x2, x3, x4⟩, ⟨w0, w1, w2, w3, w4⟩, fun F N nx hF => HLd (o := 0) (k := 1) (g0 F N nx hF) (HLd (o := 1) (k := 1) (g1 F N nx hF) (HLd (o := 2) (k := 2) (g2 F N nx hF) (HLd (o := 4) (k := 2) (g3 F N nx hF) (HLd (o := 6) (k := 1) (g4 F N nx hF) (HLe (o := 7) hl)))))⟩
theorem opL126 : OpnLs Try.prog .change 126 := opn_list Try.underlying126 (by kernel_rfl) op136
theorem opL133 : OpnLs Try.prog .i64 133 := opn_list Try.underlying133 (by kernel_rfl) op3
theorem op133 : Opn Try.prog .ints 133 := fun en w base spare held m cs y h => by
  obtain ⟨l, h1, h2⟩ := opL133 en w base spare held m cs y h
  exact ⟨l, h1, h2⟩
theorem opL147 : OpnLs Try.prog .view 147 := opn_list Try.underlying147 (by kernel_rfl) op94
theorem opL166 : OpnLs Try.prog .rows 166 := opn_list Try.underlying166 (by kernel_rfl) op67
theorem opL195 : OpnLs Try.prog .vec 195 := opn_list Try.underlying195 (by kernel_rfl) op31
theorem op226 : Opn Try.prog .place 226 := fun en w base spare held m cs y h => by
  obtain ⟨xs, n, _, _, hl, hz, hg⟩ := DataW.trod_struct Try.underlying226 h
  have hz : xs.length = 2 := hz
  have hl : cs.length = 2 := hl.trans (by kernel_rfl)
  obtain ⟨x0, w0, g0⟩ := fldO (i := 0) (o := 0) (k := 1) op9 rfl rfl rfl (by kernel_rfl) (by omega) hg
  obtain ⟨x1, w1, g1⟩ := fldO (i := 1) (o := 1) (k := 1) op3 rfl rfl rfl (by kernel_rfl) (by omega) hg
  exact ⟨⟨x0, x1⟩, ⟨w0, w1⟩, fun F N nx hF => HLd (o := 0) (k := 1) (g0 F N nx hF) (HLd (o := 1) (k := 1) (g1 F N nx hF) (HLe (o := 2) hl))⟩
theorem op239 : Opn Try.prog .u32 239 := opn_u32 Try.underlying239
end Go.Proofs.Yteebobbhhgmeiaa
