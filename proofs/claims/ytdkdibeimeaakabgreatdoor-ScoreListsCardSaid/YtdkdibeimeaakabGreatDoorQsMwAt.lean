/- Ranges over functions whose rounds may panic: the function that holds the range is known. -/
import Derived.Test.YtdkdibeimeaakabGreatDoorQsMwLoop
import Derived.Test.YtdkdibeimeaakabGreatDoorQsMwJoin

namespace Go.Proofs.YtdkdibeimeaakabGreatDoor
open Go.RowKit
section
variable {P : Program} {n : Nat} {f : FuncId}
def wpAt (P : Program) (f : FuncId) (c : Code) (Q : Exit → Act → World → Prop) (a : Act) (w : World) : Prop :=
  ∀ (b : Frame) (k : List Item) (cs : List Frame), b.roundOf = none → b.fn = f → ∃ e a' w', Q e a' w' ∧ ArrivesIn (Machine.fenced P Fence.wide) P (lone (b.atR a (.code c :: k)) cs w) b k cs e a' w'
def mwpAt (P : Program) (f : FuncId) : MC → Env → List Deferred → World → (Env → List Deferred → World → Prop) → (Nat → Env → List Deferred → World → Prop) → (Env → List Deferred → World → Prop) →
    (Env → List PanicEntry → List Deferred → World → Prop) → Prop
  | .seq a b, e, ds, w, N, E, R, X => mwpAt P f a e ds w (fun e ds w => mwpAt P f b e ds w N E R X) E R X
  | .block id b, e, ds, w, N, E, R, X => mwpAt P f b e ds w N (fun i e ds w => if i = id then N e ds w else E i e ds w) R X
  | .raw c, e, ds, w, N, E, R, X => ∀ n a, Rel a e n ds → fits n c = true → wpAt P f c (liftQ n N E R X) a w
  | m, e, ds, w, N, E, R, X => mwp P m e ds w N E R X
def roundPostX (P : Program) (l : Nat) (R : Ending → World → Prop) : Exit → Act → World → Prop
  | .panic ch, a, w => a.defers = [] ∧ R (.panicked ch) w
  | e, a, w => roundPost P l R e a w
end
end Go.Proofs.YtdkdibeimeaakabGreatDoor
