/- journal.sector and its closure, walked. -/
import Derived.Test.YtcdjglkcblphlaaProg
import Derived.Test.YtcdjglkcblphlaaBase
import Derived.Test.YtcdjglkcblphlaaOct
import Derived.Deep.RegionLaw
set_option linter.unusedVariables false
set_option linter.unusedSimpArgs false
namespace Go.Proofs.Ytcdjglkcblphlaa
open Go.RowKit

theorem size_u8 : (Try.prog.info? 5).map (·.size) = some 1 := by kernel_rfl

set_option maxHeartbeats 400000 in
/-- lay: the bytes go in at 'at', which goes on. -/
theorem lay_ok (A : Option Addr) (n c : Nat) (xs L : List Int) (hn : xs.length = n) (k ba bs : Nat) (w : World) (hL : L.length = 64) (hk : k + xs.length ≤ 64)
    (ha : Blk w ba #[.int .i64 k] 3) (hs : Blk w bs (nums .u8 L) 73) (hx : Reads w .u8 A xs) :
    Calls Try.prog 34 #[.slice A n c, .pointer (some ⟨ba, 0, none⟩), .pointer (some ⟨bs, 0, none⟩)] w fun e w' => e = .returned (.tuple #[]) ∧
      Blk w' ba #[.int .i64 ((k + xs.length : Nat) : Int)] 3 ∧ Blk w' bs (nums .u8 (splice L k xs)) 73 ∧ Mod (fun i => i = ba ∨ i = bs) w w' ∧ w'.heap.size = w.heap.size := by
  subst hn
  have c0 := ha.cell 0
  have f0 := ha.free 0
  have hne : ¬ ba = bs := by
    rintro rfl
    unfold Blk at ha hs
    rw [ha] at hs
    simp only [Option.some.injEq, Obj.cells.injEq] at hs
    exact absurd hs.2.1 (by decide)
  have HF := Fact.mk (And.intro ha (And.intro hs hx))
  clear ha hs hx
  have hkl : (k : Int) ≤ 64 := by omega
  have hkx : (k : Int) + xs.length ≤ 64 := by omega
  have hu := Try.underlying64
  have hmin : xs.length = Nat.min xs.length (64 - k) := by show _ = min _ _; omega
  have HM := Fact.mk hmin
  clear hmin
  have hdp : 0 < xs.length → some (if 64 = k then (⟨bs, 0, none⟩ : Addr) else ⟨bs, k, none⟩) = some ⟨bs, k, none⟩ := fun _ => by rw [if_neg (by omega)]
  have HD := Fact.mk hdp
  clear hdp
  go_enter Try.func34, Try.ntmps34
  go_wp2
  go_region_law (refine step_copy_nums rfl _ _ _ _ rfl _ hu size_u8 _ _ _ _ _ _ rfl rfl .u8 bs k L xs _ HF.out.2.1 HM.out HD.out HF.out.2.2 (by omega) ?_; intro w1 b1 m1 z1; have c1 := (HF.out.1.drew.mod m1.out (by simpa using hne)).cell 0; have f1 := (HF.out.1.drew.mod m1.out (by simpa using hne)).free 0)
  all_goals
    have B1 := HF.out.1.drew.mod m1.out (by simpa using hne)
    have hw : IntKind.i64.wrap ((k : Int) + xs.length) = ((k + xs.length : Nat) : Int) := by rw [IntWalk.i64_in _ (by omega)]; simp
    rw [hw]
    go_end0
    exact ⟨rfl, B1.set 0 _, b1.out.setOther (by simpa using fun h => hne h.symm) _, ((Mod.refl _ _).drew.trans (m1.out.mono (fun _ h => .inr h))).setCell (by exact .inl (.inl rfl)) _, by simp [z1.out]⟩

/-- The bytes of a record's sector. -/
def sectorB (i : Nat) (b : List Int) : List Int := splice (splice (splice (zeros 64) 0 (highB (i + 1) 4)) 4 [b.length]) 5 b

theorem zero_sector : (Try.prog.info? 73).bind (fun i => i.zero.map Value.cells) = some (nums .u8 (zeros 64)) := by kernel_rfl
theorem size_sector : (Try.prog.info? 73).map (·.size) = some 64 := by kernel_rfl
theorem splice_length {α : Type} (L : List α) (off : Nat) (cs : List α) (h : off + cs.length ≤ L.length) : (splice L off cs).length = L.length := length_splice L off cs h
theorem sectorB_length (i : Nat) (b : List Int) (hb : b.length ≤ 59) : (sectorB i b).length = 64 := by
  unfold sectorB
  simp only [splice, List.length_append, List.length_take, List.length_drop, zeros_length, highB_length, List.length_cons, List.length_nil]
  omega

set_option maxHeartbeats 1000000 in
theorem sector_ok (i : Nat) (A : Option Addr) (c : Nat) (b : List Int) (w : World) (g : Nat) (hg : w.heap.size = g) (hi : i < 1000) (hb : b.length ≤ 59) (hx : Reads w .u8 A b) :
    Calls Try.prog 28 #[.int .i64 i, .slice A b.length c] w fun e w' => e = .returned (.agg (nums .u8 (sectorB i b))) ∧ Below g w w' := by
  have HX := Fact.mk hx
  clear hx
  have hlb : (b.length : Int) ≤ 59 := by omega
  go_enter Try.func28, Try.ntmps28
  go_wp2_with (with_reducible refine wpl_alloc rfl 73 rfl _ zero_sector ?_)
  have hZ0 := Blk.new' w g (nums .u8 (zeros 64)) 73 hg.symm
  have hZ1 := Blk.new' (w.alloc (.cells (nums .u8 (zeros 64)) 73)) (g + 1) (nums .u8 (zeros 64)) 73 (by simp; omega)
  have hZ2 := Blk.new' ((w.alloc (.cells (nums .u8 (zeros 64)) 73)).alloc (.cells (nums .u8 (zeros 64)) 73)) (g + 2) #[.int .i64 0] 3 (by simp; omega)
  have hB : Below g w (((w.alloc (.cells (nums .u8 (zeros 64)) 73)).alloc (.cells (nums .u8 (zeros 64)) 73)).alloc (.cells #[.int .i64 0] 3)) :=
    (((Below.refl _ _).alloc (by omega) _).alloc (by simp; omega) _).alloc (by simp; omega) _
  have hS : (((w.alloc (.cells (nums .u8 (zeros 64)) 73)).alloc (.cells (nums .u8 (zeros 64)) 73)).alloc (.cells #[.int .i64 0] 3)).heap.size = g + 3 := by simp; omega
  have hZ0 := (hZ0.alloc (.cells (nums .u8 (zeros 64)) 73)).alloc (.cells #[.int .i64 0] 3)
  have hZ1 := hZ1.alloc (.cells #[.int .i64 0] 3)
  generalize ((w.alloc (.cells (nums .u8 (zeros 64)) 73)).alloc (.cells (nums .u8 (zeros 64)) 73)).alloc (.cells #[.int .i64 0] 3) = w3 at *
  have HF := Fact.mk (And.intro hZ0 (And.intro hZ1 (And.intro hZ2 hB)))
  clear hZ0 hZ1 hZ2 hB
  have hAlt : ∀ a, A = some a → 0 < b.length → a.block < g := fun a e hp => by have := HX.out.lt a e hp; omega
  have HX3 := Fact.mk (HX.out.below HF.out.2.2.2 hAlt)
  refine (high_ok ((i : Int) + 1) 4 w3 (g + 3) hS (by omega) (by omega) (by omega)).mono ?_
  rintro e w4 ⟨rfl, b4, l4, s4⟩
  have H4 := Fact.mk (And.intro b4 l4)
  clear b4 l4 hS
  go_wp2_with fail
  refine (lay_ok (some ⟨g + 3 + 1, 0, none⟩) 4 4 (highB ((i : Int) + 1) 4) (zeros 64) (highB_length _ _) 0 (g + 2) (g + 1) w4 (zeros_length 64) (by rw [highB_length]; omega) (HF.out.2.2.1.below H4.out.2 (by omega)) (HF.out.2.1.below H4.out.2 (by omega)) (Reads.of_blk H4.out.1)).mono ?_
  rintro e w5 ⟨rfl, ba5, bs5, m5, s5⟩
  rw [highB_length] at ba5
  have H5 := Fact.mk (And.intro ba5 (And.intro bs5 m5))
  clear ba5 bs5 m5
  go_wp2_with fail
  have b6 : Blk (w5.alloc (.cells #[.int .u8 b.length] 5)) (g + 3 + 2) (nums .u8 [(b.length : Int)]) 5 := Blk.new' _ _ _ _ (by omega)
  have ba6 := H5.out.1.alloc (.cells #[.int .u8 b.length] 5)
  have bs6 := H5.out.2.1.alloc (.cells #[.int .u8 b.length] 5)
  have m6 := H5.out.2.2.alloc (.cells #[.int .u8 b.length] 5)
  have s6 : (w5.alloc (.cells #[.int .u8 b.length] 5)).heap.size = g + 6 := by simp; omega
  generalize w5.alloc (.cells #[.int .u8 b.length] 5) = w6 at *
  have H6 := Fact.mk (And.intro b6 (And.intro ba6 (And.intro bs6 m6)))
  clear b6 ba6 bs6 m6 H5
  have hl1 : (splice (zeros 64) 0 (highB ((i : Int) + 1) 4)).length = 64 := by rw [splice_length _ _ _ (by rw [highB_length, zeros_length]; omega), zeros_length]
  have HL1 := Fact.mk hl1
  clear hl1
  refine (lay_ok (some ⟨g + 3 + 2, 0, none⟩) 1 1 [(b.length : Int)] (splice (zeros 64) 0 (highB ((i : Int) + 1) 4)) rfl (0 + 4) (g + 2) (g + 1) w6 HL1.out (by simp) H6.out.2.1 H6.out.2.2.1 (Reads.of_blk H6.out.1)).mono ?_
  rintro e w7 ⟨rfl, ba7, bs7, m7, s7⟩
  have m37 : Mod (fun i => i = g + 2 ∨ i = g + 1) w4 w7 := H6.out.2.2.2.trans m7
  have H7 := Fact.mk (And.intro ba7 (And.intro bs7 m37))
  clear ba7 bs7 m7 m37 H6
  go_wp2_with fail
  have HX7 := Fact.mk ((HX3.out.below H4.out.2 (fun a e hp => by have := hAlt a e hp; omega)).mod H7.out.2.2 (fun a e hp => by have := hAlt a e hp; omega))
  have hl2 : (splice (splice (zeros 64) 0 (highB ((i : Int) + 1) 4)) (0 + 4) [(b.length : Int)]).length = 64 := by rw [splice_length _ _ _ (by rw [HL1.out]; simp), HL1.out]
  have HL2 := Fact.mk hl2
  clear hl2
  refine (lay_ok A b.length c b (splice (splice (zeros 64) 0 (highB ((i : Int) + 1) 4)) (0 + 4) [(b.length : Int)]) rfl (0 + 4 + 1) (g + 2) (g + 1) w7 HL2.out (by omega) H7.out.1 H7.out.2.1 HX7.out).mono ?_
  rintro e w8 ⟨rfl, _, bs8, m8, s8⟩
  have hl3 : (sectorB i b).length = 64 := sectorB_length i b hb
  have bs8' : Blk w8 (g + 1) (nums .u8 (sectorB i b)) 73 := bs8
  have b0 : Blk w8 g (nums .u8 (zeros 64)) 73 := ((HF.out.1.below H4.out.2 (by omega)).mod H7.out.2.2 (by omega)).mod m8 (by omega)
  have hB8 : Below g w w8 := (HF.out.2.2.2.trans (H4.out.2.mono (by omega))).trans ((H7.out.2.2.trans m8).toBelow (by omega) (by omega))
  have H8 := Fact.mk (And.intro b0 (And.intro bs8' hB8))
  clear bs8 m8 bs8' b0 hB8
  have HL3 := Fact.mk hl3
  clear hl3
  have hsz : (Try.prog.info? 73).map (·.size) = some (nums .u8 (sectorB i b)).size := by rw [nums_size, HL3.out]; exact size_sector
  have HSZ := Fact.mk hsz
  clear hsz
  go_wp2_with (first | ((with_reducible refine wpl_load rfl 73 _ rfl _ Try.underlying73 rfl (nums .u8 (sectorB i b)) HSZ.out ⟨g + 1, 0, none⟩ ?_ (H8.out.2.1).loads ?_); rfl) | ((with_reducible refine wpl_store rfl 73 _ _ rfl (nums .u8 (sectorB i b)) HSZ.out g 0 ?_ ?_ (nums .u8 (zeros 64)) _ H8.out.1 (by rw [nums_size, nums_size, HL3.out, zeros_length]; omega) (nums_one _ _) ?_); rfl; rfl; intro w9 b9 m9 z9))
  rw [aSplice_whole _ _ (by rw [nums_size, nums_size, HL3.out, zeros_length])] at b9
  refine bodyPost_ret (results_cell_row rfl _ _ g _ (nums .u8 (sectorB i b)) _ _ rfl b9.out Try.underlying73 rfl HSZ.out) rfl ⟨rfl, H8.out.2.2.trans (m9.out.toBelow (by omega) (by omega))⟩
end Go.Proofs.Ytcdjglkcblphlaa
