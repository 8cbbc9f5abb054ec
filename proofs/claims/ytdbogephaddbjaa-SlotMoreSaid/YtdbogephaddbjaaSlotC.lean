/- slot.low: the windows in which a function is not at least a vector. -/
import Derived.Test.YtdbogephaddbjaaSlotB
import Derived.Test.YtdbogephaddbjaaRange
import Derived.Laws.EntriesVeiled
import Derived.BigRegionIn
import Derived.Sort.CutIn
import Derived.Tactics
import Derived.Tactics2
import Derived.WalkKit
import Derived.LoopTactic
import Derived.WalkLawsBesides
import Derived.WalkSpells
import Derived.Outline
import Derived.Deep.QuietTactic
import Derived.BigQuiet
import Derived.Deep.DeepCutAuto
import Derived.Deep.LoopGhost
import Derived.Deep.RegionHeld3
import Derived.RegionTactic
import Derived.KernelRfl
import Derived.Lib.Hide
set_option linter.unusedVariables false
set_option linter.unusedSimpArgs false
namespace Go.Proofs.Ytdbogephaddbjaa
open Go.RowKit
attribute [local go_sem] Oper.semAt_some

set_option maxHeartbeats 400000 in
theorem slot_low (A : Option Addr) (n c : Nat) (f t m k : Int) (w : World) :
    Calls Try.prog 28 #[.slice A n c, .agg #[.int .i64 f, .int .i64 t], .agg #[.int .i64 m, .int .i64 k]] w fun e w' =>
      e = .returned (.func (.func 54) #[] #[.pointer (some ⟨w.heap.size + 1, 0, none⟩), .pointer (some ⟨w.heap.size, 0, none⟩), .pointer (some ⟨w.heap.size + 1 + 1, 0, none⟩)]) ∧
      w' = ((w.alloc (.cells #[.slice A n c] 22)).alloc (.cells #[.int .i64 f, .int .i64 t] 24)).alloc (.cells #[.int .i64 m, .int .i64 k] 51) := by
  go_enter Try.func28, Try.ntmps28
  go_wp2
  go_ret
  exact ⟨rfl, rfl⟩
theorem low1_enters : Enters Try.prog 54 := fun _ _ => by kernel_rfl

/-- The windows from a state on: where the open window begins, the value there. -/
def lowGo (w : Win) (v : Vec) : Int → Vec → List Seg → List Win
  | from_, at_, [] => if leV v.m v.c at_.m at_.c then [] else [⟨from_, w.t⟩]
  | from_, at_, x :: xs =>
    if x.at_ ≤ w.f ∨ w.t ≤ x.at_ then lowGo w v from_ at_ xs
    else (if leV v.m v.c at_.m at_.c then [] else [⟨from_, x.at_⟩]) ++ lowGo w v x.at_ x.v xs
def lowF (F : List Seg) (w : Win) (v : Vec) : List Win := lowGo w v w.f (atF F w.f) F
def encW (l : List Win) (k : Nat) : Array Value :=
  match l[k]? with
  | some x => #[.agg #[.int .i64 x.f, .int .i64 x.t]]
  | none => #[.agg #[.int .i64 0, .int .i64 0]]

end Go.Proofs.Ytdbogephaddbjaa
