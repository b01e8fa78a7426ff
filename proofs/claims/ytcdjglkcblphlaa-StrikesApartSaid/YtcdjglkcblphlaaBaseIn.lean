/- The same words inside a fence: no program in them. -/
import Derived.RangeFuncNested
import Derived.RangeFuncBound
import Derived.RangeFuncCalls
import Derived.RangeFuncLeaves
import Derived.Shelf.Abstract
import Derived.Shelf.RegionOpen
import Derived.WalkKit
import Derived.OwnWalkIn
import Derived.TacticsInMore
import Derived.LoopNIn
import Derived.LoopIn
import Derived.Test.YtcdjglkcblphlaaBase
set_option linter.unusedVariables false
set_option linter.unusedSimpArgs false
namespace Go.Proofs.Ytcdjglkcblphlaa
open Go.RowKit Go.Shelf

theorem mod_putObj {S : Nat → Prop} (W : World) (l : Nat) (o : Obj) (h : S l) : Mod S W (W.putObj l o) :=
  ⟨rfl, rfl, rfl, by simp [World.putObj], fun i hi hs => by simp [World.putObj, Array.getElem?_setIfInBounds, show ¬ l = i by rintro rfl; exact hs h]⟩

section
variable {F : Fence} {n : Nat} {P : Program} {dst : Option Tmp} {ty : TypeId} {pos : String} {after : Array Edge} {gd : Option (Nat × Bool)} {a : Act} {w : World} {K : Act → World → Prop} {Q : Exit → Act → World → Prop}
theorem wpIn_ld (t : TypeId) (x : Operand) : Oper.wpIn F n P ⟨dst, .load t x, ty, pos, after, gd⟩ a w K Q =
    Oper.uponIn F n P ⟨dst, .load t x, ty, pos, after, gd⟩ a K Q ((ldRun P t (a.eval x) w).andThen fun v w' => .ok (.value v) w') := by
  unfold Oper.wpIn ldRun
  rw [Oper.semAt_eq _ _ _ (by intro c h; cases h)]
  simp only [Oper.about, execOp, Sem.run_bind, Sem.run_pure]
  simp
theorem wpIn_st (t : TypeId) (x y : Operand) : Oper.wpIn F n P ⟨dst, .store t x y, ty, pos, after, gd⟩ a w K Q =
    Oper.uponIn F n P ⟨dst, .store t x y, ty, pos, after, gd⟩ a K Q ((stRun P t (a.eval x) (a.eval y) w).andThen fun _ w' => .ok .skip w') := by
  unfold Oper.wpIn stRun
  rw [Oper.semAt_eq _ _ _ (by intro c h; cases h)]
  simp only [Oper.about, execOp, Sem.run_bind, Sem.run_pure]
  simp
theorem wpIn_al (t : TypeId) (z : Array Value) (hz : (P.info? t).bind (fun i => i.zero.map Value.cells) = some z) : Oper.wpIn F n P ⟨dst, .alloc t, ty, pos, after, gd⟩ a w K Q =
    K (a.put dst (.pointer (some ⟨w.heap.size, 0, none⟩))) (w.alloc (.cells z t)) := by
  unfold Oper.wpIn
  rw [Oper.semAt_eq _ _ _ (by intro c h; cases h)]
  simp only [Oper.about, execOp, Sem.run_bind, Sem.run_pure, run_allocAgg w t z hz, Result.andThen_ok, Oper.uponIn_value]
  simp
end
end Go.Proofs.Ytcdjglkcblphlaa
