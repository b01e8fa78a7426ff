/- octets: Low, turned, High, OfHigh, walked. -/
import Derived.Test.YtcdjglkcblphlaaProg
import Derived.Test.YtcdjglkcblphlaaBase
import Derived.Deep.LoopGhost
set_option linter.unusedVariables false
set_option linter.unusedSimpArgs false
namespace Go.Proofs.Ytcdjglkcblphlaa
open Go.RowKit

theorem info_u8 : (Try.prog.info? 5).map (fun i => (i.zero.map Value.cells, i.size, i.bytes)) = some (some (nums .u8 (zeros 1)), 1, 1) := by kernel_rfl

theorem elem_u8 : ElemInfo Try.prog 5 1 1 := by unfold ElemInfo; kernel_rfl

theorem run_make_u8 (m : Nat) (h : m ≤ 100000) (W : World) : (Instr.makeSlice 64 (.int .i64 (m : Int)) (.int .i64 (m : Int))).run Try.prog W =
    .ok (.slice (some ⟨W.heap.size, 0, none⟩) m m) (W.alloc (.cells (nums .u8 (zeros m)) 5)) := by
  obtain ⟨i, hi, hz⟩ := Option.map_eq_some_iff.1 info_u8
  simp only [Prod.mk.injEq] at hz
  obtain ⟨hz0, hz1, hz2⟩ := hz
  obtain ⟨z, hz, hzc⟩ := Option.map_eq_some_iff.1 hz0
  have := run_make (P := Try.prog) W 64 5 i z Try.underlying64 hi hz .i64 .i64 m m (by omega) (by omega) (by rw [hz2]; omega) (by omega)
  rw [this, hzc, hz1]
  simp only [Int.toNat_natCast]
  rw [madeCells_zeros _ _ _ (by omega), Nat.mul_one]

/-- A number's i-th byte. -/
def byteAt (n : Int) (i : Nat) : Int := n / 2 ^ (8 * i) % 256
/-- The first so many of k are told. -/
def lowTo (n : Int) (k i : Nat) : List Int := (List.range k).map fun j => if j < i then byteAt n j else 0

theorem lowTo_length (n : Int) (k i : Nat) : (lowTo n k i).length = k := by simp [lowTo]
theorem lowTo_zero (n : Int) (k : Nat) : lowTo n k 0 = zeros k := by
  apply List.ext_getElem?
  intro j
  simp only [lowTo, List.getElem?_map, zeros, List.getElem?_replicate]
  by_cases h : j < k <;> simp [h]
theorem lowTo_succ (n : Int) (k i : Nat) (h : i < k) : (lowTo n k i).set i (byteAt n i) = lowTo n k (i + 1) := by
  apply List.ext_getElem?
  intro j
  simp only [lowTo, List.getElem?_map, List.getElem?_set, List.length_map, List.length_range]
  by_cases hj : i = j
  · subst hj; simp [h]
  · by_cases hk : j < k
    · have e : (j < i + 1) = (j < i) := by apply propext; omega
      simp [hj, hk, e]
    · simp [hj, hk]
theorem lowTo_all (n : Int) (k : Nat) : lowTo n k k = (List.range k).map (byteAt n) := by
  unfold lowTo
  apply List.map_congr_left
  intro j hj
  rw [if_pos (List.mem_range.1 hj)]

set_option maxHeartbeats 400000 in
theorem low_ok (n : Int) (k : Nat) (w : World) (g : Nat) (hg : w.heap.size = g) (hk : k ≤ 8) (hn : 0 ≤ n) (hn' : n < 18446744073709551616) :
    Calls Try.prog 30 #[.int .u64 n, .int .i64 k] w fun e w' => e = .returned (.slice (some ⟨g, 0, none⟩) k k) ∧
      Blk w' g (nums .u8 ((List.range k).map (byteAt n))) 5 ∧ Below g w w' ∧ w'.heap.size = g + 1 := by
  have hmk := run_make_u8 k (by omega)
  go_enter Try.func30, Try.ntmps30
  go_wp2
  have hs := Blk.new' w g (nums .u8 (zeros k)) 5 hg.symm
  go_loopw [13] (fun i wr => ∃ j : Nat, j ≤ k ∧ i = .int .i64 j ∧ Fact (Blk wr g (nums .u8 (lowTo n k j)) 5 ∧ Below g w wr ∧ wr.heap.size = g + 1)) (fun i _ => k - (intOf i).toNat)
  case atStart => exact ⟨0, by omega, rfl, ⟨by rw [lowTo_zero]; exact hs, (Below.refl _ _).alloc (by omega) _, by simp; omega⟩⟩
  case round =>
    clear hs
    obtain ⟨j, hj, rfl, HF⟩ := hrel
    by_cases hlt : j < k
    · have hc := HF.out.1.cell j
      have hf := HF.out.1.free j
      rw [nums_get_lt _ _ _ (by rw [lowTo_length]; exact hlt)] at hc
      go_wp2
      go_roundw
      case rel => exact ⟨j + 1, by omega, by go_num, ⟨by rw [← lowTo_succ _ _ _ hlt, ← nums_set]; exact HF.out.1.set _ _, HF.out.2.1.setCell (by exact Nat.le_refl _) _, by simp; exact HF.out.2.2⟩⟩
      case measure => simp [intOf]; omega
    · obtain rfl : j = k := by omega
      go_wp2
      go_ret
      exact ⟨rfl, by rw [← lowTo_all]; exact HF.out.1, HF.out.2⟩

/-- The other order, told up to i. -/
def turnTo (xs : List Int) (i : Nat) : List Int := (List.range xs.length).map fun j => if xs.length ≤ j + i then xs.getD (xs.length - 1 - j) 0 else 0
theorem turnTo_length (xs : List Int) (i : Nat) : (turnTo xs i).length = xs.length := by simp [turnTo]
theorem turnTo_zero (xs : List Int) : turnTo xs 0 = zeros xs.length := by
  apply List.ext_getElem?
  intro j
  simp only [turnTo, List.getElem?_map, zeros, List.getElem?_replicate]
  by_cases h : j < xs.length
  · have e : ¬ xs.length ≤ j := by omega
    simp [h, e]
  · simp [h]
theorem turnTo_succ (xs : List Int) (i : Nat) (h : i < xs.length) : (turnTo xs i).set (xs.length - 1 - i) (xs.getD i 0) = turnTo xs (i + 1) := by
  apply List.ext_getElem?
  intro j
  simp only [turnTo, List.getElem?_map, List.getElem?_set, List.length_map, List.length_range]
  by_cases hj : xs.length - 1 - i = j
  · subst hj
    have e : xs.length - 1 - (xs.length - 1 - i) = i := by omega
    have e2 : xs.length ≤ xs.length - 1 - i + (i + 1) := by omega
    have e3 : xs.length - 1 - i < xs.length := by omega
    simp [e, e2, e3]
  · by_cases hk : j < xs.length
    · have e : (xs.length ≤ j + (i + 1)) = (xs.length ≤ j + i) := by apply propext; omega
      simp only [List.getElem?_range hk, Option.map_some, if_neg hj, e]
    · simp [hj, hk]
theorem turnTo_all (xs : List Int) : turnTo xs xs.length = xs.reverse := by
  apply List.ext_getElem?
  intro j
  simp only [turnTo, List.getElem?_map]
  by_cases h : j < xs.length
  · rw [List.getElem?_reverse h]
    have h2 : xs.length - 1 - j < xs.length := by omega
    simp [h, h2]
  · simp [h, Nat.le_of_not_lt h]

set_option maxHeartbeats 400000 in
theorem turned_ok (A : Option Addr) (c : Nat) (xs : List Int) (w : World) (g : Nat) (hg : w.heap.size = g) (hl : xs.length ≤ 100000)
    (hx : ∀ i : Nat, i < xs.length → ∃ a, A = some a ∧ a.block < g ∧ w.cell? (a.add i) = some (.int .u8 (xs.getD i 0))) :
    Calls Try.prog 29 #[.slice A xs.length c] w fun e w' => e = .returned (.slice (some ⟨g, 0, none⟩) xs.length xs.length) ∧
      Blk w' g (nums .u8 xs.reverse) 5 ∧ Below g w w' ∧ w'.heap.size = g + 1 := by
  have hmk := run_make_u8 xs.length hl
  have HX := Fact.mk hx
  clear hx
  go_enter Try.func29, Try.ntmps29
  go_wp2
  have hs := Blk.new' w g (nums .u8 (zeros xs.length)) 5 hg.symm
  go_loopw [11] (fun i wr => ∃ j : Nat, j ≤ xs.length ∧ i = .int .i64 j ∧ Fact (Blk wr g (nums .u8 (turnTo xs j)) 5 ∧ Below g w wr ∧ wr.heap.size = g + 1)) (fun i _ => xs.length - (intOf i).toNat)
  case atStart => exact ⟨0, by omega, rfl, ⟨by rw [turnTo_zero]; exact hs, (Below.refl _ _).alloc (by omega) _, by simp; omega⟩⟩
  case round =>
    clear hs
    obtain ⟨j, hj, rfl, HF⟩ := hrel
    by_cases hlt : j < xs.length
    · have hc := HF.out.1.cell (xs.length - 1 - j)
      have hf := HF.out.1.free (xs.length - 1 - j)
      rw [nums_get_lt _ _ _ (by rw [turnTo_length]; omega)] at hc
      obtain ⟨a, rfl, ha, hca⟩ := HX.out j hlt
      rw [← HF.out.2.1.cell (by show (a.add j).block < g; unfold Addr.add; split <;> omega)] at hca
      go_wp2
      go_roundw
      case rel => exact ⟨j + 1, by omega, by go_num, ⟨by rw [← turnTo_succ _ _ hlt, ← nums_set]; simp only [List.getD_eq_getElem?_getD, List.getElem?_eq_getElem hlt, Option.getD_some]; exact HF.out.1.set _ _, HF.out.2.1.setCell (by exact Nat.le_refl _) _, by simp; exact HF.out.2.2⟩⟩
      case measure => simp [intOf]; omega
    · obtain rfl : j = xs.length := by omega
      go_wp2
      go_ret
      exact ⟨rfl, by rw [← turnTo_all]; exact HF.out.1, HF.out.2⟩

def highB (n : Int) (k : Nat) : List Int := ((List.range k).map (byteAt n)).reverse
theorem highB_length (n : Int) (k : Nat) : (highB n k).length = k := by simp [highB]

theorem high_ok (n : Int) (k : Nat) (w : World) (g : Nat) (hg : w.heap.size = g) (hk : k ≤ 8) (hn : 0 ≤ n) (hn' : n < 18446744073709551616) :
    Calls Try.prog 22 #[.int .u64 n, .int .i64 k] w fun e w' => e = .returned (.slice (some ⟨g + 1, 0, none⟩) k k) ∧
      Blk w' (g + 1) (nums .u8 (highB n k)) 5 ∧ Below g w w' ∧ w'.heap.size = g + 2 := by
  go_enter Try.func22, Try.ntmps22
  go_wp2_with (go_at_call 30; refine (low_ok n k _ g hg hk hn hn').mono ?_; rintro e w1 ⟨rfl, hb1, hl1, hs1⟩)
  have HF := Fact.mk (And.intro hb1 hl1)
  clear hb1 hl1
  have ht := turned_ok (some ⟨g, 0, none⟩) k ((List.range k).map (byteAt n)) w1 (g + 1) hs1 (by simp; omega) (fun i hi => ⟨_, rfl, by show g < g + 1; omega, by
    have := HF.out.1.cell i
    rw [nums_get_lt _ _ _ hi] at this
    unfold Addr.add; split
    · rename_i h0; subst h0; exact this
    · simpa using this⟩)
  simp only [List.length_map, List.length_range] at ht
  have HT := Fact.mk ht
  clear ht
  go_wp2_with (go_at_call 29; refine (HT.out).mono ?_; rintro e w2 ⟨rfl, hb2, hl2, hs2⟩)
  go_ret
  exact ⟨rfl, hb2, HF.out.2.trans (hl2.mono (by omega)), hs2⟩

/-- The number of bytes, the highest first. -/
def ofHigh (xs : List Int) : Int := xs.foldl (fun n c => n * 256 + c) 0

theorem ofHigh_snoc (xs : List Int) (x : Int) : ofHigh (xs ++ [x]) = ofHigh xs * 256 + x := by simp [ofHigh]
theorem ofHigh_range (xs : List Int) : (∀ x ∈ xs, 0 ≤ x ∧ x < 256) → 0 ≤ ofHigh xs ∧ ofHigh xs < 256 ^ xs.length := by
  have key : ∀ (xs : List Int) (n : Int) (k : Nat), (∀ x ∈ xs, 0 ≤ x ∧ x < 256) → 0 ≤ n → n < 256 ^ k → 0 ≤ xs.foldl (fun n c => n * 256 + c) n ∧ xs.foldl (fun n c => n * 256 + c) n < 256 ^ (k + xs.length) := by
    intro xs
    induction xs with
    | nil => intro n k _ h0 h1; exact ⟨h0, h1⟩
    | cons x xs ih =>
      intro n k hx h0 h1
      have hx0 := hx x (by simp)
      have := ih (n * 256 + x) (k + 1) (fun y hy => hx y (by simp [hy])) (by omega) (by rw [Int.pow_succ]; omega)
      simpa [Nat.add_assoc, Nat.add_comm 1] using this
  intro h
  simpa [ofHigh] using key xs 0 0 h (by omega) (by omega)

theorem ofHigh_lt (xs : List Int) (h : ∀ x ∈ xs, 0 ≤ x ∧ x < 256) (k : Nat) (hk : xs.length ≤ k) : 0 ≤ ofHigh xs ∧ ofHigh xs < ((256 ^ k : Nat) : Int) := by
  have hr := ofHigh_range xs h
  have : ((256 ^ xs.length : Nat) : Int) ≤ ((256 ^ k : Nat) : Int) := Int.ofNat_le.2 (Nat.pow_le_pow_right (by omega) hk)
  rw [Int.natCast_pow] at this
  exact ⟨hr.1, Int.lt_of_lt_of_le hr.2 this⟩

set_option maxHeartbeats 400000 in
theorem ofHigh_ok (A : Option Addr) (c : Nat) (xs : List Int) (w : World) (hl : xs.length ≤ 8) (hc : xs.length ≤ c) (hb : ∀ x ∈ xs, 0 ≤ x ∧ x < 256)
    (hx : ∀ i : Nat, i < xs.length → ∃ a, A = some a ∧ w.cell? (a.add i) = some (.int .u8 (xs.getD i 0))) :
    Calls Try.prog 25 #[.slice A xs.length c] w fun e w' => e = .returned (.int .u64 (ofHigh xs)) ∧ w = w' := by
  have HX := Fact.mk hx
  clear hx
  go_enter Try.func25, Try.ntmps25
  go_wp2
  go_loop [3, 12] (fun v i => ∃ j : Nat, j ≤ xs.length ∧ i = .int .i64 j ∧ v = .int .u64 (ofHigh (xs.take j))) (fun _ i => xs.length - (intOf i).toNat)
  case atStart => exact ⟨0, by omega, rfl, rfl⟩
  case round =>
    obtain ⟨j, hj, rfl, rfl⟩ := hrel
    by_cases hlt : j < xs.length
    · obtain ⟨a, rfl, hca⟩ := HX.out j hlt
      have hr := ofHigh_lt (xs.take j) (fun x hx => hb x (List.mem_of_mem_take hx)) 7 (by rw [List.length_take]; omega)
      have h0 := hr.1
      have h1 : ofHigh (xs.take j) < 72057594037927936 := hr.2
      have hb' := hb (xs.getD j 0) (by rw [List.getD_eq_getElem?_getD, List.getElem?_eq_getElem hlt]; exact List.getElem_mem hlt)
      have hq' : ofHigh (xs.take (j + 1)) = ofHigh (xs.take j) * 256 + xs.getD j 0 := by
        rw [List.take_succ_eq_append_getElem hlt, ofHigh_snoc, List.getD_eq_getElem?_getD, List.getElem?_eq_getElem hlt]; rfl
      clear hr hb HX
      generalize xs.getD j 0 = y at *
      have HQ := Fact.mk hq'
      clear hq'
      generalize hq : ofHigh (xs.take j) = q at *
      clear hq
      have ho : bits .or .u64 (q * 256) y = q * 256 + y := by
        rw [u64_or _ _ (by omega) (by omega) (by omega) (by omega), nat_join8 _ _ (by omega) (by omega)]
        omega
      have HO := Fact.mk ho
      clear ho
      go_wp2
      go_round
      case rel => exact ⟨j + 1, by omega, by go_num, by rw [HO.out, HQ.out]⟩
      case measure => simp [intOf]; omega
    · obtain rfl : j = xs.length := by omega
      go_wp2
      go_ret
      exact ⟨by simp, rfl⟩
end Go.Proofs.Ytcdjglkcblphlaa
