/- The disk's small functions, walked. -/
import Derived.Test.YtcdjglkcblphlaaProg
import Derived.Test.YtcdjglkcblphlaaBase
set_option linter.unusedVariables false
namespace Go.Proofs.Ytcdjglkcblphlaa
open Go.RowKit

theorem has_any (d : Nat) (i : Int) (A : Option Addr) (n c : Nat) (w : World) (h0 : w.cell? ⟨d, 0, none⟩ = some (.slice A n c)) :
    Calls Try.prog 33 #[.pointer (some ⟨d, 0, none⟩), .int .i64 i] w fun e w' => e = .returned (.bool (decide (0 ≤ i ∧ i < n))) ∧ w = w' := by
  by_cases h : 0 ≤ i
  · by_cases h' : i < n
    all_goals
      go_enter Try.func33, Try.ntmps33
      go_wp2
      go_ret
      exact ⟨by simp [*], rfl⟩
  · go_enter Try.func33, Try.ntmps33
    go_wp2
    go_ret
    exact ⟨by simp; omega, rfl⟩

theorem time_any (n : Int) (w : World) :
    Calls Try.prog 16 #[.int .i64 n] w fun e w' => e = .returned (.bool (decide (0 ≤ n ∧ n ≤ 1000000))) ∧ w = w' := by
  by_cases h : 0 ≤ n
  · go_enter Try.func16, Try.ntmps16
    go_wp2
    go_ret
    exact ⟨by simp [h], rfl⟩
  · go_enter Try.func16, Try.ntmps16
    go_wp2
    go_ret
    exact ⟨by simp; omega, rfl⟩

/-- The fuse burns not. -/
theorem burn_ok (d : Nat) (A m : Value) (w : World) (hb : Blk w d #[A, m, .int .i64 (-1), .bool false] 50) :
    Calls Try.prog 35 #[.pointer (some ⟨d, 0, none⟩)] w fun e w' => e = .returned (.int .i64 0) ∧ Blk w' d #[A, m, .int .i64 (-1), .bool false] 50 ∧ Mod (· = d) w w' := by
  have h2 := hb.cell 2
  have h3 := hb.cell 3
  have f2 := hb.free 2
  have f3 := hb.free 3
  have H := Fact.mk hb
  clear hb
  go_enter Try.func35, Try.ntmps35
  go_wp2
  go_ret
  exact ⟨rfl, (H.out.set 3 _).set 2 _, ((Mod.refl _ _).setCell (by exact .inl rfl) _).setCell (by exact .inl rfl) _⟩


theorem info_sector : (Try.prog.info? 73).map (fun i => (i.zero.map Value.cells, i.size, i.bytes)) = some (some (nums .u8 (zeros 64)), 64, 64) := by kernel_rfl

/-- make([]disk.Sector, m). -/
theorem run_make_sectors (m : Nat) (h : m ≤ 64) (W : World) : (Instr.makeSlice 47 (.int .i64 (m : Int)) (.int .i64 (m : Int))).run Try.prog W =
    .ok (.slice (some ⟨W.heap.size, 0, none⟩) m m) (W.alloc (.cells (nums .u8 (zeros (m * 64))) 73)) := by
  obtain ⟨i, hi, hz⟩ := Option.map_eq_some_iff.1 info_sector
  simp only [Prod.mk.injEq] at hz
  obtain ⟨hz0, hz1, hz2⟩ := hz
  obtain ⟨z, hz, hzc⟩ := Option.map_eq_some_iff.1 hz0
  have := run_make (P := Try.prog) W 47 73 i z Try.underlying47 hi hz .i64 .i64 m m (by omega) (by omega) (by rw [hz2]; omega) (by omega)
  rw [this, hzc, hz1]
  simp only [Int.toNat_natCast]
  rw [madeCells_zeros _ _ _ (by omega)]

theorem new_ok (m : Nat) (w : World) (h1 : 1 ≤ m) (h2 : m ≤ 64) :
    Calls Try.prog 7 #[.int .i64 m] w fun e w' => e = .returned (.tuple #[.pointer (some ⟨w.heap.size + 2, 0, none⟩), .int .i64 0]) ∧
      Blk w' w.heap.size (nums .u8 (zeros (m * 64))) 73 ∧ MapBlk w' (w.heap.size + 1) #[] 0 ∧
      Blk w' (w.heap.size + 2) #[.slice (some ⟨w.heap.size, 0, none⟩) m m, .map (some (w.heap.size + 1)), .int .i64 (-1), .bool false] 50 ∧ Below w.heap.size w w' := by
  have hmk := run_make_sectors m h2
  have hmm := @run_makeMap Try.prog
  go_enter Try.func7, Try.ntmps7
  go_wp2
  go_ret2
  exact ⟨rfl, ((Blk.new' w _ _ _ rfl).alloc _).alloc _, (MapBlk.new' _ _ _ _ (by simp)).alloc _, Blk.new' _ _ _ _ (by simp), ((((Below.refl _ _).alloc (by simp) _).alloc (by simp) _).alloc (by simp; omega) _)⟩

end Go.Proofs.Ytcdjglkcblphlaa
