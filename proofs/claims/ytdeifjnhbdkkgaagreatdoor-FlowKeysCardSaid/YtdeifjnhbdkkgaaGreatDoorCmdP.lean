/- Contracts of cmd.target, cmd.Put, vivariumlaw13.live. -/
import Derived.Test.YtdeifjnhbdkkgaaGreatDoorCmd1
import Derived.Test.YtdeifjnhbdkkgaaGreatDoorLe1
import Derived.Test.YtdeifjnhbdkkgaaGreatDoorMem
import Derived.Deep.RegionHeld3
import Derived.Test.YtdeifjnhbdkkgaaGreatDoorArgs
import Derived.OwnWalk
namespace Go.Proofs.YtdeifjnhbdkkgaaGreatDoor
open Go.RowKit
set_option maxRecDepth 100000
set_option linter.unusedVariables false

/-- What target adds. -/
def targetC (x : Cmd) : List UInt8 := if x.loc then leB (word 1) 1 ++ leB (word x.idx) 8 else leB (word 0) 1 ++ (leB (word x.idx) 8 ++ leB (word x.gen) 8)
/-- A call that leaves bytes of its own. -/
def BytesPost (w : World) (l : List UInt8) (e : Ending) (w' : World) : Prop := ∃ A n c, e = .returned (.slice A n c) ∧ By w' (fun b => w.heap.size ≤ b) (.slice A n c) l ∧ Below w.heap.size w w'
theorem putP (l : List UInt8) (v : Value) (F : Nat → Prop) (width n : Int) (w : World) (hv : By w F v l) (hn : l.length ≤ 35184372088832) :
    Calls Tryz.prog 42 #[v, .int .i64 width, .int .i64 n] w (BytesPost w (l ++ leB (word n) (wideN width))) :=
  (put_any l v F width n w hv hn).mono fun e w' ⟨u, he, ho, hb⟩ => by
    obtain ⟨A, c, rfl, _⟩ := ho.form
    exact ⟨A, _, c, he, sl_by ho.sl, hb⟩
end Go.Proofs.YtdeifjnhbdkkgaaGreatDoor
namespace Go.Proofs.YtdeifjnhbdkkgaaGreatDoor
open Go.RowKit
set_option maxRecDepth 100000
set_option linter.unusedVariables false

end Go.Proofs.YtdeifjnhbdkkgaaGreatDoor
namespace Go.Proofs.YtdeifjnhbdkkgaaGreatDoor
open Go.RowKit
set_option maxRecDepth 100000
set_option linter.unusedVariables false

theorem putOb (l : List UInt8) (v : Value) (F : Nat → Prop) (width n : Int) (w : World) (hv : By w F v l) (hn : l.length ≤ 35184372088832) :
    Calls Tryz.prog 42 #[v, .int .i64 width, .int .i64 n] w (ObPost w (l ++ leB (word n) (wideN width))) :=
  (put_any l v F width n w hv hn).mono fun e w' ⟨u, he, ho, hb⟩ => by
    obtain ⟨A, c, rfl, _⟩ := ho.form
    exact ⟨A, _, c, he, ⟨_, ho⟩, hb⟩
end Go.Proofs.YtdeifjnhbdkkgaaGreatDoor
namespace Go.Proofs.YtdeifjnhbdkkgaaGreatDoor
open Go.RowKit
set_option maxRecDepth 100000
set_option linter.unusedVariables false

end Go.Proofs.YtdeifjnhbdkkgaaGreatDoor
