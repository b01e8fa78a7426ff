/- journal.record, walked. -/
import Derived.Test.YtcdjglkcblphlaaProg
import Derived.Test.YtcdjglkcblphlaaBase
import Derived.Test.YtcdjglkcblphlaaSector
import Derived.BigQuiet
import Derived.Deep.RegionWith
import Derived.Deep.RegionLaw
set_option linter.unusedVariables false
set_option linter.unusedSimpArgs false
namespace Go.Proofs.Ytcdjglkcblphlaa
open Go.RowKit

theorem eql_sector (W : World) (xs ys : List Int) (hx : xs.length = 64) (hy : ys.length = 64) : (Op.equalIn 10000 73 (.agg (nums .u8 xs)) (.agg (nums .u8 ys))).run Try.prog W = .ok (decide (xs = ys)) W :=
  run_equalIn_nums W 9998 73 5 64 .u8 .u8 _ rfl Try.underlying73 Try.underlying5 size_u8 xs ys hx hy

section
variable {dst : Option Tmp} {ty : TypeId} {pos : String} {after : Array Edge} {gd : Option (Nat × Bool)} {a : Act} {w : World} {K : Act → World → Prop} {Q : Exit → Act → World → Prop}
@[go_sem ↓] theorem wp_ld_sector (x : Operand) : Oper.wp Try.prog ⟨dst, .load 73 x, ty, pos, after, gd⟩ a w K Q =
    Oper.upon Try.prog ⟨dst, .load 73 x, ty, pos, after, gd⟩ a K Q ((ldRun Try.prog 73 (a.eval x) w).andThen fun v w' => .ok (.value v) w') := wp_ld _ _
@[go_sem ↓] theorem wp_st_sector (x y : Operand) : Oper.wp Try.prog ⟨dst, .store 73 x y, ty, pos, after, gd⟩ a w K Q =
    Oper.upon Try.prog ⟨dst, .store 73 x y, ty, pos, after, gd⟩ a K Q ((stRun Try.prog 73 (a.eval x) (a.eval y) w).andThen fun _ w' => .ok .skip w') := wp_st _ _ _
@[go_sem ↓] theorem wp_al_sector : Oper.wp Try.prog ⟨dst, .alloc 73, ty, pos, after, gd⟩ a w K Q =
    K (a.put dst (.pointer (some ⟨w.heap.size, 0, none⟩))) (w.alloc (.cells (nums .u8 (zeros 64)) 73)) := wp_al _ _ zero_sector
end
@[go_sem] theorem ldRun_sector (w : World) (b off : Nat) (h : HasRow w ⟨b, off, none⟩ 64) : ldRun Try.prog 73 (.pointer (some ⟨b, off, none⟩)) w = .ok (.agg (rowAt w ⟨b, off, none⟩ 64)) w :=
  run_loadRow w 73 _ _ 64 Try.underlying73 rfl size_sector h
@[go_sem] theorem stRun_sector (w : World) (b off : Nat) (cs : Array Value) (hs : cs.size = 64) (h : MayPut w b off cs) : stRun Try.prog 73 (.pointer (some ⟨b, off, none⟩)) (.agg cs) w = .ok () (putRow w b off cs) :=
  run_storeRow w 73 b off cs (by rw [hs]; exact size_sector) h

/-- The bytes of a sector's record. -/
def recB (S : List Int) : List Int := (S.drop 5).take (S.getD 4 0).toNat
/-- Is it one? -/
def isRec (i : Nat) (S : List Int) : Bool := decide (S.getD 4 0 ≤ 59 ∧ sectorB i (recB S) = S)

set_option maxHeartbeats 1000000 in
theorem record_ok (i : Nat) (S : List Int) (w : World) (g : Nat) (hg : w.heap.size = g) (hi : i < 1000) (hS : S.length = 64) (hb : ∀ x ∈ S, 0 ≤ x ∧ x < 256) (h4 : S.getD 4 0 ≤ 59) :
    Calls Try.prog 21 #[.int .i64 i, .agg (nums .u8 S)] w fun e w' => ∃ A c, e = .returned (.tuple #[.slice A (recB S).length c, .bool (isRec i S)]) ∧ Reads w' .u8 A (recB S) ∧ Below g w w' := by
  have hz := Blk.new' w g (nums .u8 S) 73 hg.symm
  have c4 := hz.cell 4
  rw [nums_get_lt _ _ _ (by omega)] at c4
  have hb4 := hb (S.getD 4 0) (by rw [List.getD_eq_getElem?_getD, List.getElem?_eq_getElem (by omega)]; exact List.getElem_mem _)
  obtain ⟨n, hn⟩ := Int.eq_ofNat_of_zero_le hb4.1
  rw [hn] at c4 h4
  have HF := Fact.mk (And.intro hz (And.intro hb hn))
  clear hz hb hn hb4
  have h5 : (n : Int) ≤ 59 := h4
  have h7 : (5 : Int) + n ≤ 64 := by omega
  have h8 : (5 : Int) ≤ 5 + n := by omega
  have h9 : (0 : Int) ≤ n := by omega
  go_enter Try.func21, Try.ntmps21
  have hL := Blk.new' (w.alloc (.cells (nums .u8 S) 73)) (g + 1) #[] 5 (by simp; omega)
  have hO := owns_lit (n := 0) (size := 1) (base := g) hL (by omega) rfl (by simp [maxLen])
  have hz1 := HF.out.1.alloc (.cells #[] 5)
  have hn : ReadsV ((w.alloc (.cells (nums .u8 S) 73)).alloc (.cells #[] 5)) (some ⟨g, 5, none⟩) ((recB S).map (Value.int .u8)) := by
    intro j u hu
    refine ⟨_, rfl, ?_⟩
    rw [List.getElem?_map] at hu
    obtain ⟨x, hx, rfl⟩ := Option.map_eq_some_iff.1 hu
    rw [addr_add, hz1.cell, nums_get]
    have : (recB S)[j]? = S[5 + j]? := by
      have hj := (List.getElem?_eq_some_iff.1 hx).1
      unfold recB at hj ⊢
      rw [List.getElem?_take_of_lt (by rw [List.length_take] at hj; omega), List.getElem?_drop]
    rw [← this, hx]
    rfl
  have hlen : (recB S).length = n := by unfold recB; rw [HF.out.2.2, List.length_take, List.length_drop, hS]; simp; omega
  have hgs : g ≤ ((w.alloc (.cells (nums .u8 S) 73)).alloc (.cells #[] 5)).heap.size := by rw [World.size_alloc, World.size_alloc]; omega
  have HA := Fact.mk (And.intro hO (And.intro hn (And.intro hlen (And.intro hgs hz1))))
  clear hL hO hz1 hn hlen hgs
  go_wp2_with (at_builtin; refine (wpl_append rfl (.tmp 13) (.tmp 16) 64 rfl g 5 1 1 Try.underlying64 elem_u8 (by decide) (by decide) _ 0 _ HA.out.1 (some ⟨g, 5, none⟩) (5 + n - 5) 59 ((recB S).map (Value.int .u8)) rfl rfl (by rw [List.length_map, HA.out.2.2.1]; omega) HA.out.2.1 (nums_oneCell _ _) (by omega) HA.out.2.2.2.1 ?_); intro v1 w1 o1 g1 a1)
  have hz2 := HA.out.2.2.2.2.mod (Mod.of_grown g1.out) (by simp [Value.ownBlock])
  obtain ⟨A, c, rfl, hc1, hr1, hA1⟩ := owns_reads o1.out
  have hr1 : Reads w1 .u8 A (recB S) := by simpa using ReadsV.toInts (by simpa using hr1)
  have hb1 : Below g w w1 := (((Below.refl _ _).alloc (by omega) _).alloc (by simp; omega) _).trans ((Mod.of_grown g1.out).toBelow (by simp; omega) (by simp [Value.ownBlock]))
  have H1 := Fact.mk (And.intro hz2 (And.intro hr1 (And.intro hb1 hA1)))
  clear hz2 hr1 hb1 hA1 o1 g1 a1
  have hl : 0 + (5 + n - 5) = (recB S).length := by rw [HA.out.2.2.1]; omega
  rw [hl]
  clear hl
  have q1 := HasRow.of_blk H1.out.1 0 64 (by rw [nums_size]; omega)
  have q2 := rowAt_whole H1.out.1 64 (by rw [nums_size]; omega)
  have hq := eql_sector
  have HE := fun W => eql_sector W (sectorB i (recB S)) S (sectorB_length i _ (by rw [HA.out.2.2.1]; omega)) hS
  clear hq
  go_region_law (go_simp; go_at_call 28; go_loud (refine (sector_ok i A c (recB S) _ _ rfl hi (by rw [HA.out.2.2.1]; omega) (by exact H1.out.2.1)).mono ?_; rintro e w2 ⟨rfl, l2⟩; have q3 := HasRow.of_blk (Blk.below H1.out.1.drew l2 H1.out.1.lt) 0 64 (by rw [nums_size]; omega); have q4 := rowAt_whole (Blk.below H1.out.1.drew l2 H1.out.1.lt) 64 (by rw [nums_size]; omega); have L2 : Fact (Below w1.heap.size w1 w2) := ⟨below_drew l2⟩; clear l2))
  all_goals
    have hres : decide (sectorB i (recB S) = S) = isRec i S := by unfold isRec; rw [HF.out.2.2]; simp [h4]
    have HR := Fact.mk hres
    clear hres
    go_wp2
    go_ret2
    exact ⟨A, c, by simp [Act.put, ← HR.out], H1.out.2.1.below L2.out (fun a e _ => (H1.out.2.2.2 a e).2), H1.out.2.2.1.trans (L2.out.mono (by have := H1.out.2.2.1.size; omega))⟩

/-- A sector that is none. -/
theorem record_none (i : Nat) (S : List Int) (w : World) (g : Nat) (hg : w.heap.size = g) (hS : S.length = 64) (h4 : 59 < S.getD 4 0) (h5 : S.getD 4 0 < 256) :
    Calls Try.prog 21 #[.int .i64 i, .agg (nums .u8 S)] w fun e w' => e = .returned (.tuple #[.slice none 0 0, .bool false]) ∧ Below g w w' := by
  have hz := Blk.new' w g (nums .u8 S) 73 hg.symm
  have c4 := hz.cell 4
  rw [nums_get_lt _ _ _ (by omega)] at c4
  obtain ⟨n, hn⟩ := Int.eq_ofNat_of_zero_le (show 0 ≤ S.getD 4 0 by omega)
  rw [hn] at c4 h4 h5
  clear hz hn
  go_enter Try.func21, Try.ntmps21
  go_wp2
  go_ret2
  exact ⟨rfl, (Below.refl _ _).alloc (by omega) _⟩
end Go.Proofs.Ytcdjglkcblphlaa
