/- made by a program (tctab.py): which types are which typed data. -/
import Derived.Test.YteebobbhhgmeiaaTQ
import Derived.Test.YteebobbhhgmeiaaProg
namespace Go.Proofs.Yteebobbhhgmeiaa
open Go.RowKit

/-- The cells of a datum that is zero. -/
def zc : TC → List Value
  | .u8 => [.int .u8 0]
  | .i64 => [.int .i64 0]
  | .u32 => [.int .u32 0]
  | .bool => [.bool false]
  | .str => [.string ByteArray.empty]
  | .bytes => [.slice none 0 0]
  | .ints => [.slice none 0 0]
  | .cells => [.slice none 0 0]
  | .rows => [.slice none 0 0]
  | .digest => List.replicate 32 (.int .u8 0)
  | c => (enc c (dflt c)).map fun x => match x with
    | .v y => y
    | _ => .slice none 0 0
theorem zc_ok (c : TC) (F : Nat → Prop) (N : Nm) (nx : Nat) (R : World) : HL F N nx R (enc c (dflt c)) (zc c) := by
  cases c <;> (repeat' (first | exact HL.nil | exact Hv.v _ | exact Hv.sl_nil rfl | apply HL.cons))
def tcRow (P : Program) (t : TypeId) : Option (Nat × Option (List Value)) := (P.info? t).map fun i => (i.size, i.zero.map fun z => z.cells.toList)
theorem tcRow_ok {P : Program} {t : TypeId} {c : TC} (h : tcRow P t = some (size c, some (zc c))) (h0 : 0 < size c) : ∃ i, P.info? t = some i ∧ i.size = size c ∧ 0 < size c ∧ ∃ z, i.zero = some z ∧ ∀ (F : Nat → Prop) (N : Nm) (nx : Nat) (R : World), HL F N nx R (enc c (dflt c)) z.cells.toList := by
  unfold tcRow at h
  cases hi : P.info? t with
  | none => rw [hi] at h; cases h
  | some i =>
    rw [hi] at h
    have h' : some (i.size, i.zero.map fun z => z.cells.toList) = some (size c, some (zc c)) := h
    injection h' with h'
    injection h' with h1 h2
    cases hz : i.zero with
    | none => rw [hz] at h2; cases h2
    | some z =>
      rw [hz] at h2
      injection h2 with h2
      have h3 : z.cells.toList = zc c := h2
      exact ⟨i, rfl, h1, h0, z, hz, fun F N nx R => by rw [h3]; exact zc_ok c F N nx R⟩
theorem size_pos (c : TC) : 0 < size c := by cases c <;> decide

def tcTab (t : TypeId) : Option TC := bif Nat.beq t 2 then some .i64 else bif Nat.beq t 3 then some .i64 else bif Nat.beq t 4 then some .bool else bif Nat.beq t 5 then some .u8 else bif Nat.beq t 9 then some .str else bif Nat.beq t 25 then some .front else bif Nat.beq t 26 then some .i64 else bif Nat.beq t 30 then some .vec else bif Nat.beq t 31 then some .vec else bif Nat.beq t 33 then some .told else bif Nat.beq t 37 then some .front else bif Nat.beq t 51 then some .stamp else bif Nat.beq t 53 then some .ask else bif Nat.beq t 55 then some .cell else bif Nat.beq t 67 then some .rows else bif Nat.beq t 69 then some .cells else bif Nat.beq t 71 then some .row else bif Nat.beq t 79 then some .group else bif Nat.beq t 84 then some .bytes else bif Nat.beq t 94 then some .view else bif Nat.beq t 112 then some .two else bif Nat.beq t 133 then some .ints else bif Nat.beq t 136 then some .change else bif Nat.beq t 139 then some .write else bif Nat.beq t 142 then some .field else bif Nat.beq t 226 then some .place else bif Nat.beq t 239 then some .u32 else none
theorem tc2_row : tcRow Try.prog 2 = some (size .i64, some (zc .i64)) := by kernel_rfl
theorem tc3_row : tcRow Try.prog 3 = some (size .i64, some (zc .i64)) := by kernel_rfl
theorem tc4_row : tcRow Try.prog 4 = some (size .bool, some (zc .bool)) := by kernel_rfl
theorem tc5_row : tcRow Try.prog 5 = some (size .u8, some (zc .u8)) := by kernel_rfl
theorem tc9_row : tcRow Try.prog 9 = some (size .str, some (zc .str)) := by kernel_rfl
theorem tc25_row : tcRow Try.prog 25 = some (size .front, some (zc .front)) := by kernel_rfl
theorem tc26_row : tcRow Try.prog 26 = some (size .i64, some (zc .i64)) := by kernel_rfl
theorem tc30_row : tcRow Try.prog 30 = some (size .vec, some (zc .vec)) := by kernel_rfl
theorem tc31_row : tcRow Try.prog 31 = some (size .vec, some (zc .vec)) := by kernel_rfl
theorem tc33_row : tcRow Try.prog 33 = some (size .told, some (zc .told)) := by kernel_rfl
theorem tc37_row : tcRow Try.prog 37 = some (size .front, some (zc .front)) := by kernel_rfl
theorem tc51_row : tcRow Try.prog 51 = some (size .stamp, some (zc .stamp)) := by kernel_rfl
theorem tc53_row : tcRow Try.prog 53 = some (size .ask, some (zc .ask)) := by kernel_rfl
theorem tc55_row : tcRow Try.prog 55 = some (size .cell, some (zc .cell)) := by kernel_rfl
theorem tc67_row : tcRow Try.prog 67 = some (size .rows, some (zc .rows)) := by kernel_rfl
theorem tc69_row : tcRow Try.prog 69 = some (size .cells, some (zc .cells)) := by kernel_rfl
theorem tc71_row : tcRow Try.prog 71 = some (size .row, some (zc .row)) := by kernel_rfl
theorem tc79_row : tcRow Try.prog 79 = some (size .group, some (zc .group)) := by kernel_rfl
theorem tc84_row : tcRow Try.prog 84 = some (size .bytes, some (zc .bytes)) := by kernel_rfl
theorem tc94_row : tcRow Try.prog 94 = some (size .view, some (zc .view)) := by kernel_rfl
theorem tc112_row : tcRow Try.prog 112 = some (size .two, some (zc .two)) := by kernel_rfl
theorem tc133_row : tcRow Try.prog 133 = some (size .ints, some (zc .ints)) := by kernel_rfl
theorem tc136_row : tcRow Try.prog 136 = some (size .change, some (zc .change)) := by kernel_rfl
theorem tc139_row : tcRow Try.prog 139 = some (size .write, some (zc .write)) := by kernel_rfl
theorem tc142_row : tcRow Try.prog 142 = some (size .field, some (zc .field)) := by kernel_rfl
theorem tc226_row : tcRow Try.prog 226 = some (size .place, some (zc .place)) := by kernel_rfl
theorem tc239_row : tcRow Try.prog 239 = some (size .u32, some (zc .u32)) := by kernel_rfl
theorem tcStep {P : Program} {t k : TypeId} {c c0 : TC} {r : Option TC} (h : (bif Nat.beq t k then some c0 else r) = some c) (hk : tcRow P k = some (size c0, some (zc c0))) : tcRow P t = some (size c, some (zc c)) ∨ r = some c := by
  cases hb : Nat.beq t k with
  | true => rw [hb] at h; cases h; rw [Nat.eq_of_beq_eq_true hb]; exact .inl hk
  | false => rw [hb] at h; exact .inr h
theorem tcTab_ok : TcOk Try.prog tcTab := fun t c h => by
  refine tcRow_ok ?_ (size_pos c)
  unfold tcTab at h
  rcases tcStep h tc2_row with h | h
  · exact h
  rcases tcStep h tc3_row with h | h
  · exact h
  rcases tcStep h tc4_row with h | h
  · exact h
  rcases tcStep h tc5_row with h | h
  · exact h
  rcases tcStep h tc9_row with h | h
  · exact h
  rcases tcStep h tc25_row with h | h
  · exact h
  rcases tcStep h tc26_row with h | h
  · exact h
  rcases tcStep h tc30_row with h | h
  · exact h
  rcases tcStep h tc31_row with h | h
  · exact h
  rcases tcStep h tc33_row with h | h
  · exact h
  rcases tcStep h tc37_row with h | h
  · exact h
  rcases tcStep h tc51_row with h | h
  · exact h
  rcases tcStep h tc53_row with h | h
  · exact h
  rcases tcStep h tc55_row with h | h
  · exact h
  rcases tcStep h tc67_row with h | h
  · exact h
  rcases tcStep h tc69_row with h | h
  · exact h
  rcases tcStep h tc71_row with h | h
  · exact h
  rcases tcStep h tc79_row with h | h
  · exact h
  rcases tcStep h tc84_row with h | h
  · exact h
  rcases tcStep h tc94_row with h | h
  · exact h
  rcases tcStep h tc112_row with h | h
  · exact h
  rcases tcStep h tc133_row with h | h
  · exact h
  rcases tcStep h tc136_row with h | h
  · exact h
  rcases tcStep h tc139_row with h | h
  · exact h
  rcases tcStep h tc142_row with h | h
  · exact h
  rcases tcStep h tc226_row with h | h
  · exact h
  rcases tcStep h tc239_row with h | h
  · exact h
  cases h
end Go.Proofs.Yteebobbhhgmeiaa
