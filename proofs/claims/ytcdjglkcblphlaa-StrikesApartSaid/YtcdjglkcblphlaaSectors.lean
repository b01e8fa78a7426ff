/- The iterator over a disk's sectors, walked: all its sectors are noughts. -/
import Derived.Test.YtcdjglkcblphlaaProg
import Derived.Test.YtcdjglkcblphlaaBase
import Derived.Test.YtcdjglkcblphlaaBaseIn
import Derived.Test.YtcdjglkcblphlaaDiskOps
set_option linter.unusedVariables false
set_option linter.unusedSimpArgs false
namespace Go.Proofs.Ytcdjglkcblphlaa
open Go.RowKit Go.Shelf
attribute [local go_sem] Oper.semAt_some

section
variable {F : Fence} {n : Nat} {dst : Option Tmp} {ty : TypeId} {pos : String} {after : Array Edge} {gd : Option (Nat × Bool)} {a : Act} {w : World} {K : Act → World → Prop} {Q : Exit → Act → World → Prop}
@[go_sem ↓] theorem wpIn_ld_sector (x : Operand) : Oper.wpIn F n Try.prog ⟨dst, .load 73 x, ty, pos, after, gd⟩ a w K Q =
    Oper.uponIn F n Try.prog ⟨dst, .load 73 x, ty, pos, after, gd⟩ a K Q ((ldRun Try.prog 73 (a.eval x) w).andThen fun v w' => .ok (.value v) w') := wpIn_ld _ _
@[go_sem ↓] theorem wpIn_st_sector (x y : Operand) : Oper.wpIn F n Try.prog ⟨dst, .store 73 x y, ty, pos, after, gd⟩ a w K Q =
    Oper.uponIn F n Try.prog ⟨dst, .store 73 x y, ty, pos, after, gd⟩ a K Q ((stRun Try.prog 73 (a.eval x) (a.eval y) w).andThen fun _ w' => .ok .skip w') := wpIn_st _ _ _
@[go_sem ↓] theorem wpIn_al_sector : Oper.wpIn F n Try.prog ⟨dst, .alloc 73, ty, pos, after, gd⟩ a w K Q =
    K (a.put dst (.pointer (some ⟨w.heap.size, 0, none⟩))) (w.alloc (.cells (nums .u8 (zeros 64)) 73)) := wpIn_al _ _ zero_sector
end

/-- A place in a disk. -/
abbrev Place := { i : Nat // i < 64 }
/-- What the iterator hands over: the place, and noughts. -/
def encZ (x : Place) : Array Value := #[.int .i64 (x.1 : Int), .agg (nums .u8 (zeros 64))]

set_option maxHeartbeats 1000000 in
theorem sectors1_zero (d sb mb N : Nat) (ck : Nat) (g bx : Nat) (w : World) (hbx : Blk w bx #[.pointer (some ⟨d, 0, none⟩)] 24) (hD : DiskAt w d sb mb N (zeros (N * 64)) [] ck) (hd : d < g) (hs : sb < g) (hm : mb < g) (hg : g ≤ w.heap.size) :
    SeqStopsK Fence.wide 3 Try.prog 26 #[.pointer (some ⟨bx, 0, none⟩)] encZ (Mod (fun i => g ≤ i ∧ ¬ i = bx)) (fun xs => xs.map (·.1) = List.range N) (fun _ => True) 64 w := by
  intro l J Jx W hW hJ hJx hY h0
  have hDW : DiskAt W d sb mb N (zeros (N * 64)) [] ck := ⟨hD.disk.below hW hD.disk.lt, hD.sure.below hW hD.sure.lt, hD.soon.below hW hD.soon.lt, hD.len, hD.most⟩
  have hBW := hbx.below hW hbx.lt
  have hn1 : 1 ≤ 3 := by omega
  refine callsIn_of_wp Try.func26 rfl trivial ?_ rfl
  simp only [Try.ntmps26, List.size_toArray, List.length_cons, List.length_nil, Nat.reduceAdd, Nat.reduceSub, Array.replicate_succ, Array.replicate_zero, List.push_toArray, List.append_toArray, List.nil_append, List.cons_append]
  gi_wp2
  have HD := Fact.mk (And.intro hDW hBW)
  have HJ := Fact.mk (And.intro hJ h0)
  have hgW : g ≤ W.heap.size := by have := hW.size; omega
  clear hDW hBW h0
  gi_loopw [3] (fun v wr => ∃ (i : Nat) (pre : List Place), i ≤ N ∧ v = .int .i64 i ∧ Fact (pre.map (·.1) = List.range i ∧ J pre wr ∧ Mod (fun i => g ≤ i ∧ ¬ i = bx) W wr)) (fun v _ => N - (intOf v).toNat)
  case atStart => exact ⟨0, [], by omega, rfl, ⟨rfl, HJ.out.2, Mod.refl _ _⟩⟩
  case round =>
    obtain ⟨i, pre, hi, rfl, HR⟩ := hrel
    have hDr : DiskAt wr d sb mb N (zeros (N * 64)) [] ck := HD.out.1.mod HR.out.2.2 (by omega) (by omega) (by omega)
    have hBr : Blk wr bx #[.pointer (some ⟨d, 0, none⟩)] 24 := HD.out.2.mod HR.out.2.2 (by omega)
    have cB := hBr.cell 0
    have hN := HD.out.1.most
    have HDr := Fact.mk (And.intro hDr hBr)
    clear hDr hBr
    by_cases hlt : i < N
    · have hz : sec (zeros (N * 64)) i = zeros 64 := by
        unfold sec zeros
        rw [List.drop_replicate, List.take_replicate]
        congr 1
        omega
      gi_wp2_with fail
      refine ⟨trivial, ?_⟩
      refine (callsIn_wide.2 (read_ok d sb mb N i _ ck _ _ rfl (by exact HDr.out.1) hlt)).mono ?_
      rintro e w2 ⟨rfl, l2⟩
      rw [hz]
      have hJ2 : J pre w2 := HJ.out.1 pre wr w2 none HR.out.2.1 ⟨l2.os, l2.tape, l2.output, l2.size, fun k hk _ => l2.block k hk⟩ (fun r e => by cases e)
      have hlen : pre.length = i := by have := congrArg List.length HR.out.1; simpa using this
      have hi64 : i < 64 := by omega
      have hJ3 : J pre (w2.alloc (.cells (nums .u8 (zeros 64)) 73)) := HJ.out.1 pre w2 _ none hJ2 (World.grownBy_alloc _ _ _) (fun r e => by cases e)
      obtain ⟨fn, tmps, assign, body, hy, hR⟩ := hY pre ⟨i, hi64⟩ _ hJ3 (by omega)
      have hM2 : Mod (fun i => g ≤ i ∧ ¬ i = bx) W (w2.alloc (.cells (nums .u8 (zeros 64)) 73)) := (HR.out.2.2.trans ((Mod.below l2).mono (by have := HR.out.2.2.size; have := HD.out.2.lt; intro j hj; omega))).alloc _
      have HM := Fact.mk (And.intro hM2 (And.intro HR.out.1 hlen))
      have HR' := Fact.mk hR
      clear hJ2 hJ3 hM2 hR hlen l2 HR
      dsimp only [encZ] at hy
      gi_wp2
      refine HR'.out.mono ?_
      rintro e W' (⟨rfl, hJ', hk⟩ | ⟨rfl, hJx'⟩)
      · have HK := Fact.mk (And.intro hJ' hk)
        clear hJ' hk
        gi_wp2
        go_roundw
        case rel => exact ⟨i + 1, pre ++ [⟨i, hi64⟩], by omega, by go_num, ⟨by rw [List.map_append, HM.out.2.1, List.range_succ]; rfl, HK.out.1, HM.out.1.trans HK.out.2⟩⟩
        case measure => simp [intOf]; omega
      · have HK := Fact.mk hJx'
        clear hJx'
        gi_wp2
        refine bodyPost_ret (results_none rfl _ _ _) rfl ?_
        exact ⟨⟨_, rfl⟩, .inr ⟨_, trivial, HK.out⟩⟩
    · have hiN : i = N := by omega
      have HI := Fact.mk hiN
      have hlei : N ≤ i := by omega
      clear hiN
      gi_wp2_with fail
      refine ⟨trivial, ?_⟩
      refine (callsIn_wide.2 (read_end d sb mb N i _ ck _ _ rfl (by exact HDr.out.1) hlei)).mono ?_
      rintro e w2 ⟨rfl, l2⟩
      have hJ2 : J pre w2 := HJ.out.1 pre wr w2 none HR.out.2.1 ⟨l2.os, l2.tape, l2.output, l2.size, fun k hk _ => l2.block k hk⟩ (fun r e => by cases e)
      have hJ3 : J pre (w2.alloc (.cells (nums .u8 (zeros 64)) 73)) := HJ.out.1 pre w2 _ none hJ2 (World.grownBy_alloc _ _ _) (fun r e => by cases e)
      have HJ3 := Fact.mk hJ3
      clear hJ2 hJ3 l2
      gi_wp2
      refine ⟨fun _ h => (by cases h), ?_⟩
      gi_wp2
      refine bodyPost_ret (results_none rfl _ _ _) rfl ?_
      exact ⟨⟨_, rfl⟩, .inl ⟨pre, by rw [HR.out.1, HI.out], HJ3.out⟩⟩

theorem sectors_ok (d : Nat) (w : World) (g : Nat) (hg : w.heap.size = g) :
    Calls Try.prog 20 #[.pointer (some ⟨d, 0, none⟩)] w fun e w' => e = .returned (.func (.func 26) #[] #[.pointer (some ⟨g, 0, none⟩)]) ∧ w' = w.alloc (.cells #[.pointer (some ⟨d, 0, none⟩)] 24) := by
  go_enter Try.func20, Try.ntmps20
  go_wp2
  go_ret
  exact ⟨rfl, rfl⟩
end Go.Proofs.Ytcdjglkcblphlaa
