/-
  The zero value of an accumulator: its 68 cells under a name (the loader of this dump writes none).
-/
import Derived.Test.YgctacDoorRows
import Derived.WalkKit
namespace Go.Proofs.YgctacDoor

def Tacg.zeroCells33 : Array Value := (List.replicate 68 (Value.int .u64 0)).toArray
@[simp, go_sem] theorem Tacg.zeroValue33 (w : World) : (zeroValue 33).run Tacg.prog w = .ok (.agg Tacg.zeroCells33) w := by kernel_rfl
theorem Tacg.zeroCells33_size : Tacg.zeroCells33.size = 68 := by kernel_rfl
@[simp] theorem Tacg.zeroCells33_ne : Tacg.zeroCells33 ≠ #[] := by
  intro h
  have := congrArg Array.size h
  rw [Tacg.zeroCells33_size] at this
  cases this
end Go.Proofs.YgctacDoor
