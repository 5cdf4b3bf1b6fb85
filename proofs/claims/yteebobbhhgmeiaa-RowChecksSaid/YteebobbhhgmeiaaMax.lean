/- max, min on integers, without parting the walk -/
import Derived.Test.YteebobbhhgmeiaaParC
namespace Go.Proofs.Yteebobbhhgmeiaa
section
variable {P : Program} {w : World}
@[go_sem high] theorem my_max (ts : Array TypeId) (t : TypeId) (k k' : IntKind) (x y : Int) : (Builtin.max_ ts t #[.int k x, .int k' y]).run P w = .ok (.int k (max x y)) w := by
  rw [run_max_int2]
  congr 2
  omega
@[go_sem high] theorem my_min (ts : Array TypeId) (t : TypeId) (k k' : IntKind) (x y : Int) : (Builtin.min_ ts t #[.int k x, .int k' y]).run P w = .ok (.int k (min x y)) w := by
  rw [run_min_int2]
  congr 2
  omega
end
end Go.Proofs.Yteebobbhhgmeiaa
