/- strikes.time and Ledger.take, walked. -/
import Derived.Test.YtcdjglkcblphlaaProg
import Derived.Test.YtcdjglkcblphlaaBase
import Derived.Test.YtcdjglkcblphlaaMaps
import Derived.Test.YtcdjglkcblphlaaOct
import Derived.Test.YtcdjglkcblphlaaLed
import Derived.Deep.RegionLaw
import Derived.Deep.QuietTactic
import Derived.BigQuiet
import Derived.Deep.RegionHeld3
set_option linter.unusedVariables false
set_option linter.unusedSimpArgs false
namespace Go.Proofs.Ytcdjglkcblphlaa
open Go.RowKit

theorem zero_strike : (Try.prog.info? 55).bind (fun i => i.zero.map Value.cells) = some #[.int .i64 0, .int .i64 0, .bool false] := by kernel_rfl
theorem size_strike : (Try.prog.info? 55).map (·.size) = some 3 := by kernel_rfl
section
variable {dst : Option Tmp} {ty : TypeId} {pos : String} {after : Array Edge} {gd : Option (Nat × Bool)} {a : Act} {w : World} {K : Act → World → Prop} {Q : Exit → Act → World → Prop}
@[go_sem ↓] theorem wp_ld_strike (x : Operand) : Oper.wp Try.prog ⟨dst, .load 55 x, ty, pos, after, gd⟩ a w K Q =
    Oper.upon Try.prog ⟨dst, .load 55 x, ty, pos, after, gd⟩ a K Q ((ldRun Try.prog 55 (a.eval x) w).andThen fun v w' => .ok (.value v) w') := wp_ld _ _
@[go_sem ↓] theorem wp_st_strike (x y : Operand) : Oper.wp Try.prog ⟨dst, .store 55 x y, ty, pos, after, gd⟩ a w K Q =
    Oper.upon Try.prog ⟨dst, .store 55 x y, ty, pos, after, gd⟩ a K Q ((stRun Try.prog 55 (a.eval x) (a.eval y) w).andThen fun _ w' => .ok .skip w') := wp_st _ _ _
@[go_sem ↓] theorem wp_al_strike : Oper.wp Try.prog ⟨dst, .alloc 55, ty, pos, after, gd⟩ a w K Q =
    K (a.put dst (.pointer (some ⟨w.heap.size, 0, none⟩))) (w.alloc (.cells #[.int .i64 0, .int .i64 0, .bool false] 55)) := wp_al _ _ zero_strike
end
@[go_sem] theorem ldRun_strike (w : World) (b off : Nat) (h : HasRow w ⟨b, off, none⟩ 3) : ldRun Try.prog 55 (.pointer (some ⟨b, off, none⟩)) w = .ok (.agg (rowAt w ⟨b, off, none⟩ 3)) w :=
  run_loadRow w 55 _ _ 3 Try.underlying55 rfl size_strike h
@[go_sem] theorem stRun_strike (w : World) (b off : Nat) (cs : Array Value) (hs : cs.size = 3) (h : MayPut w b off cs) : stRun Try.prog 55 (.pointer (some ⟨b, off, none⟩)) (.agg cs) w = .ok () (putRow w b off cs) :=
  run_storeRow w 55 b off cs (by rw [hs]; exact size_strike) h
@[go_sem] theorem mayPut_new_strike (w : World) (n : Nat) (x y z : Value) (i j : Int) (b : Bool) (t : TypeId) (hn : n = w.heap.size) : MayPut (w.alloc (.cells #[x, y, z] t)) n 0 #[.int .i64 i, .int .i64 j, .bool b] := by
  subst hn
  exact ⟨_, _, Blk.new w _ t, by simp, by intro v hv; simp at hv; rcases hv with rfl | rfl | rfl <;> rfl⟩
@[go_sem] theorem stRun_new_strike (w : World) (n : Nat) (x y z : Value) (i j : Int) (b : Bool) (t : TypeId) (hn : n = w.heap.size) :
    stRun Try.prog 55 (.pointer (some ⟨n, 0, none⟩)) (.agg #[.int .i64 i, .int .i64 j, .bool b]) (w.alloc (.cells #[x, y, z] t)) = .ok () (w.alloc (.cells #[.int .i64 i, .int .i64 j, .bool b] t)) := by
  rw [stRun_strike _ _ _ _ rfl (mayPut_new_strike w n x y z i j b t hn), putRow_new w n #[x, y, z] #[.int .i64 i, .int .i64 j, .bool b] t hn rfl]
@[go_sem] theorem stRun_new_strike' (w : World) (x y z : Value) (i j : Int) (k : Nat) (b : Bool) (t : TypeId) :
    stRun Try.prog 55 (.pointer (some ⟨w.heap.size, 0, none⟩)) (.agg #[.int .i64 i, .int .i64 j, .bool b]) ((w.drewN k).alloc (.cells #[x, y, z] t)) = .ok () ((w.drewN k).alloc (.cells #[.int .i64 i, .int .i64 j, .bool b] t)) := 
  stRun_new_strike (w.drewN k) _ x y z i j b t rfl

theorem stime_ok (n : Int) (w : World) (h0 : 0 ≤ n) (h1 : n ≤ 1000000) : Calls Try.prog 16 #[.int .i64 n] w fun e w' => e = .returned (.bool true) ∧ w' = w := by
  go_enter Try.func16, Try.ntmps16
  go_wp2
  go_ret
  exact ⟨rfl, rfl⟩

theorem highB4 (n : Int) : highB n 4 = [byteAt n 3, byteAt n 2, byteAt n 1, byteAt n 0] := rfl
theorem ofHigh_highB (n : Int) (h0 : 0 ≤ n) (h1 : n ≤ 1000000) : ofHigh (highB n 4) = n := by
  rw [highB4]; simp [ofHigh, byteAt]; omega
theorem byteAt_range (n : Int) (i : Nat) : 0 ≤ byteAt n i ∧ byteAt n i < 256 := by unfold byteAt; omega
theorem ofHigh4 (b o c : Nat) (n : Int) (w : World) (h0 : 0 ≤ n) (h1 : n ≤ 1000000) (hc : 4 ≤ c)
    (hx : ∀ i : Nat, i < 4 → w.cell? ⟨b, o + i, none⟩ = some (.int .u8 ((highB n 4).getD i 0))) :
    Calls Try.prog 25 #[.slice (some ⟨b, o, none⟩) 4 c] w fun e w' => e = .returned (.int .u64 n) ∧ w' = w := by
  have := ofHigh_ok (some ⟨b, o, none⟩) c (highB n 4) w (by rw [highB4]; simp) hc (by rw [highB4]; intro x hx; simp at hx; rcases hx with rfl | rfl | rfl | rfl <;> exact byteAt_range _ _)
    (fun i hi => ⟨_, rfl, by rw [addr_add]; exact hx i hi⟩)
  rw [ofHigh_highB n h0 h1] at this
  exact this.mono fun e w' h => ⟨h.1, h.2.symm⟩

/-- The bytes of a record. -/
def recOf (kind acc id now : Int) : List Int := [kind, acc] ++ highB id 4 ++ highB now 4
theorem recOf_length (kind acc id now : Int) : (recOf kind acc id now).length = 10 := rfl

set_option maxHeartbeats 4000000 in
theorem take_add (lb lm b c : Nat) (cj : Value) (acc id now : Int) (E : List Ent) (mck : Nat) (w : World)
    (hL : Blk w lb #[cj, .map (some lm)] 59) (hM : MapBlk w lm (toEs E) mck) (hK : KeysOnce E) (hf : findE E id = none)
    (hr : ∀ i : Nat, i < 10 → w.cell? ⟨b, i, none⟩ = some (.int .u8 ((recOf 1 acc id now).getD i 0))) (hc : 10 ≤ c)
    (ha0 : 0 ≤ acc) (ha1 : acc < 8) (hi0 : 0 ≤ id) (hi1 : id ≤ 1000000) (hn0 : 0 ≤ now) (hn1 : now ≤ 1000000) :
    Calls Try.prog 19 #[.pointer (some ⟨lb, 0, none⟩), .slice (some ⟨b, 0, none⟩) 10 c] w fun e w' => e = .returned (.tuple #[]) ∧
      MapBlk w' lm (toEs (updE E id (.agg #[.int .i64 acc, .int .i64 now, .bool false]) mck)) (updCk E id mck) ∧ Mod (· = lm) w w' := by
  have c0 : w.cell? ⟨b, 0, none⟩ = some (.int .u8 1) := hr 0 (by omega)
  have c1 : w.cell? ⟨b, 1, none⟩ = some (.int .u8 acc) := hr 1 (by omega)
  have l1 : w.cell? ⟨lb, 1, none⟩ = some (.map (some lm)) := hL.cell 1
  have x2 : ∀ i : Nat, i < 4 → w.cell? ⟨b, 2 + i, none⟩ = some (.int .u8 ((highB id 4).getD i 0)) := by
    intro i hi; rw [hr (2 + i) (by omega)]
    obtain rfl | rfl | rfl | rfl : i = 0 ∨ i = 1 ∨ i = 2 ∨ i = 3 := by omega
    all_goals rfl
  have x6 : ∀ i : Nat, i < 4 → w.cell? ⟨b, 6 + i, none⟩ = some (.int .u8 ((highB now 4).getD i 0)) := by
    intro i hi; rw [hr (6 + i) (by omega)]
    obtain rfl | rfl | rfl | rfl : i = 0 ∨ i = 1 ∨ i = 2 ∨ i = 3 := by omega
    all_goals rfl
  have hlb : b < w.heap.size := by
    rcases Nat.lt_or_ge b w.heap.size with h | h
    · exact h
    · rw [World.cell?, Array.getElem?_eq_none h] at c0; simp at c0
  have hll : lb < w.heap.size := hL.lt
  have hlm : lm < w.heap.size := hM.lt
  have hlk := fun W => run_lookup_ok (P := Try.prog) W 57 3 55 Try.underlying57 Try.underlying3 (.agg #[.int .i64 0, .int .i64 0, .bool false]) (by kernel_rfl) lm E mck id
  rw [hf] at hlk
  simp only [Option.getD_none, Option.isSome_none] at hlk
  have hmu := fun W => run_mapUpdate_int (P := Try.prog) W 57 3 55 Try.underlying57 Try.underlying3 lm E hK mck id (.agg #[.int .i64 acc, .int .i64 now, .bool false])
  have HX := Fact.mk (And.intro x2 x6)
  have hne : ¬ b = lm := by rintro rfl; unfold MapBlk at hM; simp [World.cell?, hM] at c0
  have hne2 : ¬ lb = lm := JournalAt.blk_ne_map hL hM
  have hc' : (10 : Int) ≤ c := by omega
  have hc6 : (6 : Int) ≤ c := by omega
  have hq2 : ¬ c = 2 := by omega
  have hq6 : ¬ c = 6 := by omega
  have hwi : IntKind.i64.wrap id = id := IntWalk.i64_in _ (by omega)
  have hwa : IntKind.i64.wrap acc = acc := IntWalk.i64_in _ (by omega)
  have hwn : IntKind.i64.wrap now = now := IntWalk.i64_in _ (by omega)
  clear x2 x6 hr hL hK
  go_enter Try.func19, Try.ntmps19
  go_wp2_with fail
  go_quiet ((go_at_call 25; first | with_reducible refine Calls.quiet_of_same (ofHigh4 b 2 _ id _ hi0 hi1 ?_ ?_) | with_reducible refine Calls.quiet_of_same (ofHigh4 b 6 _ now _ hn0 hn1 ?_ ?_)) <;> first | omega | exact HX.out.1 | exact HX.out.2)
  have k0 : (w.drewN nq).cell? ⟨b, 0, none⟩ = some (.int .u8 1) := c0
  have k1 : (w.drewN nq).cell? ⟨b, 1, none⟩ = some (.int .u8 acc) := c1
  have kl : (w.drewN nq).cell? ⟨lb, 1, none⟩ = some (.map (some lm)) := l1
  have kM : MapBlk (w.drewN nq) lm (toEs E) mck := hM
  have kb : b < (w.drewN nq).heap.size := hlb
  have kll : lb < (w.drewN nq).heap.size := hll
  have klm : lm < (w.drewN nq).heap.size := hlm
  have HM := Fact.mk ((Mod.refl (· = lm) w).drewN nq)
  clear c0 c1 l1 hM hlb hll hlm HX
  generalize w.drewN nq = w1 at *
  go_wp2_with (go_at_call 16; first | (with_reducible refine (stime_ok id _ hi0 hi1).mono ?_; rintro e w1 ⟨rfl, rfl⟩) | (with_reducible refine (stime_ok now _ hn0 hn1).mono ?_; rintro e w1 ⟨rfl, rfl⟩))
  go_region_law fail
  all_goals
    go_wp2
    go_end0
    exact ⟨rfl, (kM.alloc _).put _ _, ((HM.out.alloc _).trans (mod_putMap _ _ _ _)).drew⟩
set_option maxHeartbeats 4000000 in
theorem take_clear (lb lm b c : Nat) (cj : Value) (acc id now t0 : Int) (cl : Bool) (E : List Ent) (mck : Nat) (w : World)
    (hL : Blk w lb #[cj, .map (some lm)] 59) (hM : MapBlk w lm (toEs E) mck) (hK : KeysOnce E) (hf : findE E id = some (.agg #[.int .i64 acc, .int .i64 t0, .bool cl]))
    (hr : ∀ i : Nat, i < 10 → w.cell? ⟨b, i, none⟩ = some (.int .u8 ((recOf 2 acc id now).getD i 0))) (hc : 10 ≤ c)
    (ha0 : 0 ≤ acc) (ha1 : acc < 8) (hi0 : 0 ≤ id) (hi1 : id ≤ 1000000) (hn0 : 0 ≤ now) (hn1 : now ≤ 1000000) :
    Calls Try.prog 19 #[.pointer (some ⟨lb, 0, none⟩), .slice (some ⟨b, 0, none⟩) 10 c] w fun e w' => e = .returned (.tuple #[]) ∧
      MapBlk w' lm (toEs (updE E id (.agg #[.int .i64 acc, .int .i64 t0, .bool true]) mck)) (updCk E id mck) ∧ Mod (· = lm) w w' := by
  have c0 : w.cell? ⟨b, 0, none⟩ = some (.int .u8 2) := hr 0 (by omega)
  have c1 : w.cell? ⟨b, 1, none⟩ = some (.int .u8 acc) := hr 1 (by omega)
  have l1 : w.cell? ⟨lb, 1, none⟩ = some (.map (some lm)) := hL.cell 1
  have x2 : ∀ i : Nat, i < 4 → w.cell? ⟨b, 2 + i, none⟩ = some (.int .u8 ((highB id 4).getD i 0)) := by
    intro i hi; rw [hr (2 + i) (by omega)]
    obtain rfl | rfl | rfl | rfl : i = 0 ∨ i = 1 ∨ i = 2 ∨ i = 3 := by omega
    all_goals rfl
  have x6 : ∀ i : Nat, i < 4 → w.cell? ⟨b, 6 + i, none⟩ = some (.int .u8 ((highB now 4).getD i 0)) := by
    intro i hi; rw [hr (6 + i) (by omega)]
    obtain rfl | rfl | rfl | rfl : i = 0 ∨ i = 1 ∨ i = 2 ∨ i = 3 := by omega
    all_goals rfl
  have hlb : b < w.heap.size := by
    rcases Nat.lt_or_ge b w.heap.size with h | h
    · exact h
    · rw [World.cell?, Array.getElem?_eq_none h] at c0; simp at c0
  have hll : lb < w.heap.size := hL.lt
  have hlm : lm < w.heap.size := hM.lt
  have hlk := fun W => run_lookup_ok (P := Try.prog) W 57 3 55 Try.underlying57 Try.underlying3 (.agg #[.int .i64 0, .int .i64 0, .bool false]) (by kernel_rfl) lm E mck id
  rw [hf] at hlk
  simp only [Option.getD_some, Option.isSome_some] at hlk
  have hmu := fun W => run_mapUpdate_int (P := Try.prog) W 57 3 55 Try.underlying57 Try.underlying3 lm E hK mck id (.agg #[.int .i64 acc, .int .i64 t0, .bool true])
  have HX := Fact.mk (And.intro x2 x6)
  have hne : ¬ b = lm := by rintro rfl; unfold MapBlk at hM; simp [World.cell?, hM] at c0
  have hne2 : ¬ lb = lm := JournalAt.blk_ne_map hL hM
  have hc' : (10 : Int) ≤ c := by omega
  have hc6 : (6 : Int) ≤ c := by omega
  have hq2 : ¬ c = 2 := by omega
  have hq6 : ¬ c = 6 := by omega
  have hwi : IntKind.i64.wrap id = id := IntWalk.i64_in _ (by omega)
  have hwa : IntKind.i64.wrap acc = acc := IntWalk.i64_in _ (by omega)
  have hwn : IntKind.i64.wrap now = now := IntWalk.i64_in _ (by omega)
  clear x2 x6 hr hL hK
  go_enter Try.func19, Try.ntmps19
  go_wp2_with fail
  go_quiet ((go_at_call 25; first | with_reducible refine Calls.quiet_of_same (ofHigh4 b 2 _ id _ hi0 hi1 ?_ ?_) | with_reducible refine Calls.quiet_of_same (ofHigh4 b 6 _ now _ hn0 hn1 ?_ ?_)) <;> first | omega | exact HX.out.1 | exact HX.out.2)
  have k0 : (w.drewN nq).cell? ⟨b, 0, none⟩ = some (.int .u8 2) := c0
  have k1 : (w.drewN nq).cell? ⟨b, 1, none⟩ = some (.int .u8 acc) := c1
  have kl : (w.drewN nq).cell? ⟨lb, 1, none⟩ = some (.map (some lm)) := l1
  have kM : MapBlk (w.drewN nq) lm (toEs E) mck := hM
  have kb : b < (w.drewN nq).heap.size := hlb
  have kll : lb < (w.drewN nq).heap.size := hll
  have klm : lm < (w.drewN nq).heap.size := hlm
  have HM := Fact.mk ((Mod.refl (· = lm) w).drewN nq)
  clear c0 c1 l1 hM hlb hll hlm HX
  generalize w.drewN nq = w1 at *
  go_wp2_with (go_at_call 16; first | (with_reducible refine (stime_ok id _ hi0 hi1).mono ?_; rintro e w1 ⟨rfl, rfl⟩) | (with_reducible refine (stime_ok now _ hn0 hn1).mono ?_; rintro e w1 ⟨rfl, rfl⟩))
  go_region_law fail
  all_goals
    go_wp2
    go_end0
    exact ⟨rfl, (kM.alloc _).put _ _, ((HM.out.alloc _).trans (mod_putMap _ _ _ _)).drew⟩
end Go.Proofs.Ytcdjglkcblphlaa
