/- The disk's Write, Sync and Read, walked. -/
import Derived.Test.YtcdjglkcblphlaaProg
import Derived.Test.YtcdjglkcblphlaaBase
import Derived.Test.YtcdjglkcblphlaaDisk
import Derived.Test.YtcdjglkcblphlaaRecord
import Derived.Test.YtcdjglkcblphlaaMaps
import Derived.BigRegion
set_option linter.unusedVariables false
set_option linter.unusedSimpArgs false
namespace Go.Proofs.Ytcdjglkcblphlaa
open Go.RowKit

/-- A disk of N sectors, whose fuse burns not: what is sure, and what is not. -/
structure DiskAt (w : World) (d sb mb : Nat) (N : Nat) (SU : List Int) (l : List Ent) (ck : Nat) : Prop where
  disk : Blk w d #[.slice (some ⟨sb, 0, none⟩) N N, .map (some mb), .int .i64 (-1), .bool false] 50
  sure : Blk w sb (nums .u8 SU) 73
  soon : MapBlk w mb (toEs l) ck
  len : SU.length = N * 64
  most : N ≤ 64
namespace DiskAt
theorem ne1 {w : World} {d sb mb N : Nat} {SU : List Int} {l : List Ent} {ck : Nat} (h : DiskAt w d sb mb N SU l ck) : ¬ d = sb := by
  rintro rfl
  have h1 := h.disk; have h2 := h.sure
  unfold Blk at h1 h2
  rw [h1] at h2
  simp only [Option.some.injEq, Obj.cells.injEq] at h2
  exact absurd h2.2.1 (by decide)
theorem ne2 {w : World} {d sb mb N : Nat} {SU : List Int} {l : List Ent} {ck : Nat} (h : DiskAt w d sb mb N SU l ck) : ¬ d = mb := by
  rintro rfl
  have h1 := h.disk; have h2 := h.soon
  unfold Blk at h1; unfold MapBlk at h2
  rw [h1] at h2
  simp at h2
theorem ne3 {w : World} {d sb mb N : Nat} {SU : List Int} {l : List Ent} {ck : Nat} (h : DiskAt w d sb mb N SU l ck) : ¬ sb = mb := by
  rintro rfl
  have h1 := h.sure; have h2 := h.soon
  unfold Blk at h1; unfold MapBlk at h2
  rw [h1] at h2
  simp at h2
theorem mod {S : Nat → Prop} {w w' : World} {d sb mb N : Nat} {SU : List Int} {l : List Ent} {ck : Nat} (h : DiskAt w d sb mb N SU l ck) (hm : Mod S w w') (h1 : ¬ S d) (h2 : ¬ S sb) (h3 : ¬ S mb) : DiskAt w' d sb mb N SU l ck :=
  ⟨h.disk.mod hm h1, h.sure.mod hm h2, h.soon.mod hm h3, h.len, h.most⟩
theorem drew {w : World} {d sb mb N : Nat} {SU : List Int} {l : List Ent} {ck : Nat} (h : DiskAt w d sb mb N SU l ck) : DiskAt w.drew d sb mb N SU l ck := ⟨h.disk, h.sure, h.soon, h.len, h.most⟩
end DiskAt

set_option maxHeartbeats 1000000 in
theorem write_ok (d sb mb N i : Nat) (SU S : List Int) (ck : Nat) (w : World) (hD : DiskAt w d sb mb N SU [] ck) (hi : i < N) (hS : S.length = 64) :
    Calls Try.prog 31 #[.pointer (some ⟨d, 0, none⟩), .int .i64 i, .agg (nums .u8 S)] w fun e w' => e = .returned (.int .i64 0) ∧
      DiskAt w' d sb mb N SU [⟨i, .agg (nums .u8 S), ck⟩] (ck + 1) ∧ Mod (fun j => j = d ∨ j = mb) w w' := by
  have HD := Fact.mk hD
  have c0 := hD.disk.cell 0
  have hb := hD.disk
  clear hD
  have hz := Blk.new w (nums .u8 S) 73
  have hdec : decide ((0 : Int) ≤ i ∧ (i : Int) < N) = true := by simp; omega
  have HDEC := Fact.mk hdec
  clear hdec
  go_enter Try.func31, Try.ntmps31
  go_wp2_with (go_at_call 33; refine (has_any d i _ N N _ (by exact (hb.alloc _).cell 0)).mono ?_; rintro e w1 ⟨rfl, rfl⟩; rw [HDEC.out])
  refine (burn_ok d _ _ _ (by exact hb.alloc _)).mono ?_
  rintro e w2 ⟨rfl, b2, m2⟩
  have hd : d < w.heap.size := hb.lt
  have D2 : DiskAt w2 d sb mb N SU [] ck := ⟨b2, (HD.out.sure.alloc _).mod m2 (fun h => HD.out.ne1 h.symm), (HD.out.soon.alloc _).mod m2 (fun h => HD.out.ne2 h.symm), HD.out.len, HD.out.most⟩
  have hz2 := hz.mod m2 (by omega)
  have q1 := HasRow.of_blk hz2 0 64 (by rw [nums_size]; omega)
  have q2 := rowAt_whole hz2 64 (by rw [nums_size]; omega)
  have c1 := D2.disk.cell 1
  have hm := D2.soon
  have H2 := Fact.mk (And.intro D2 (And.intro m2 hz2))
  have hmu := fun W => run_mapUpdate_int (P := Try.prog) W 48 3 73 Try.underlying48 Try.underlying3 mb [] List.nodup_nil ck i (.agg (nums .u8 S))
  clear b2 m2 D2 hz hz2 hb
  go_wp2_with fail
  go_region_law fail
  all_goals
    clear hmu
    go_wp2
    go_ret
    have D3 : DiskAt (putMap w2 mb (toEs (updE [] (i : Int) (.agg (nums .u8 S)) ck)) (updCk [] (i : Int) ck)) d sb mb N SU [⟨i, .agg (nums .u8 S), ck⟩] (ck + 1) :=
      ⟨H2.out.1.disk.mod (mod_putMap _ _ _ _) (by exact H2.out.1.ne2), H2.out.1.sure.mod (mod_putMap _ _ _ _) (by exact H2.out.1.ne3), H2.out.1.soon.put _ _, H2.out.1.len, H2.out.1.most⟩
    exact ⟨rfl, D3.drew, (((Mod.refl _ _).alloc _).trans ((H2.out.2.1.mono (fun _ h => .inl h)).trans ((mod_putMap _ _ _ _).mono (fun _ h => .inr h)))).drew⟩

/-- The sure sectors, one of them stored. -/
def putSec (SU : List Int) (i : Nat) (S : List Int) : List Int := splice SU (i * 64) S
theorem putSec_length (SU S : List Int) (i N : Nat) (h : SU.length = N * 64) (hi : i < N) (hS : S.length = 64) : (putSec SU i S).length = N * 64 := by
  unfold putSec
  rw [splice_length _ _ _ (by omega), h]

set_option maxHeartbeats 1000000 in
theorem sync_ok (d sb mb N i : Nat) (SU S : List Int) (ck : Nat) (w : World) (hD : DiskAt w d sb mb N SU [⟨i, .agg (nums .u8 S), ck⟩] (ck + 1)) (hi : i < N) (hS : S.length = 64) :
    Calls Try.prog 32 #[.pointer (some ⟨d, 0, none⟩)] w fun e w' => e = .returned (.int .i64 0) ∧
      DiskAt w' d sb mb N (putSec SU i S) [] (ck + 1) ∧ Mod (fun j => j = d ∨ j = mb ∨ j = sb) w w' := by
  have HD := Fact.mk hD
  have hb := hD.disk
  clear hD
  go_enter Try.func32, Try.ntmps32
  go_wp2_with fail
  refine (burn_ok d _ _ _ (by exact hb)).mono ?_
  rintro e w2 ⟨rfl, b2, m2⟩
  have D2 : DiskAt w2 d sb mb N SU [⟨i, .agg (nums .u8 S), ck⟩] (ck + 1) := ⟨b2, HD.out.sure.mod m2 (fun h => HD.out.ne1 h.symm), HD.out.soon.mod m2 (fun h => HD.out.ne2 h.symm), HD.out.len, HD.out.most⟩
  have c1 := D2.disk.cell 1
  have hm := D2.soon
  have H2 := Fact.mk (And.intro D2 m2)
  clear b2 m2 D2 hb
  have hr := fun W => run_range_map (P := Try.prog) W 48 3 73 Try.underlying48 mb (ck + 1) (toEs [⟨i, .agg (nums .u8 S), ck⟩])
  go_wp2_with fail
  have hd2 : d < w2.heap.size := H2.out.1.disk.lt
  have hs2 : sb < w2.heap.size := H2.out.1.sure.lt
  have hm2 : mb < w2.heap.size := H2.out.1.soon.lt
  have hr0 : w.heap.size ≤ w2.heap.size := H2.out.2.size
  have D3 : DiskAt (w2.alloc (.mapIter (some mb) (ck + 1) #[] (ck + 1))) d sb mb N SU [⟨i, .agg (nums .u8 S), ck⟩] (ck + 1) := H2.out.1.mod ((Mod.refl (fun _ => False) _).alloc _) id id id
  have I3 := iter_new w2 mb (ck + 1)
  have m3 := H2.out.2.alloc (.mapIter (some mb) (ck + 1) #[] (ck + 1))
  have z3 : (w2.alloc (.mapIter (some mb) (ck + 1) #[] (ck + 1))).heap.size = w2.heap.size + 1 := by simp
  generalize w2.alloc (.mapIter (some mb) (ck + 1) #[] (ck + 1)) = w3 at *
  generalize w2.heap.size = r at *
  have hd3 : d < r + 1 := by omega
  have hs3 : sb < r + 1 := by omega
  have hm3 : mb < r + 1 := by omega
  have H3 := Fact.mk (And.intro D3 (And.intro I3 m3))
  clear D3 I3 m3 hr hm c1 H2
  have he : ∀ W, IterBlk W r mb (ck + 1) #[ck] (ck + 1) → MapBlk W mb (toEs [⟨i, .agg (nums .u8 S), ck⟩]) (ck + 1) → (Instr.entry (.pointer (some ⟨r, 0, none⟩))).run Try.prog W = .ok (.tuple #[.int .i64 i, .agg (nums .u8 S)]) W :=
    fun W hi hm => run_entry W r mb (ck + 1) [⟨i, .agg (nums .u8 S), ck⟩] #[] ⟨i, .agg (nums .u8 S), ck⟩ hm hi (by simp) (by simp)
  refine wp_loop_rounds 2 ?_
  rw [rounds_succ]
  go_wp2_with (refine wpl_next_more rfl _ rfl r mb (ck + 1) rfl _ #[] H3.out.1.soon H3.out.2.1 (by simp) (by simp) ?_; rintro e w4 ⟨he1, _⟩ ⟨i4⟩ ⟨m4⟩ ⟨z4⟩; obtain rfl := List.mem_singleton.1 he1; have i4 : IterBlk w4 r mb (ck + 1) #[ck] (ck + 1) := i4; have D4 := H3.out.1.mod m4 (by exact Nat.ne_of_lt hd2) (by exact Nat.ne_of_lt hs2) (by exact Nat.ne_of_lt hm2); have hm4 := D4.soon; have c0 := D4.disk.cell 0; have p4 := mayPut_of D4.sure (off := i * 64) (cs := nums .u8 S) (by rw [nums_size, nums_size, D4.len]; omega) (nums_one _ _); have H4 := Fact.mk (And.intro D4 m4); clear m4 D4)
  go_region_law fail
  all_goals
    have D5 : DiskAt (putRow (w4.alloc (.cells (nums .u8 S) 73)) sb (i * 64) (nums .u8 S)) d sb mb N (putSec SU i S) [⟨i, .agg (nums .u8 S), ck⟩] (ck + 1) :=
      ⟨(H4.out.1.disk.alloc _).mod (mod_putRow _ _ _ _) (by exact H4.out.1.ne1), by
        have := blk_putRow (H4.out.1.sure.alloc (.cells (nums .u8 S) 73)) (i * 64) (nums .u8 S)
        rw [aSplice_nums] at this
        exact this, (H4.out.1.soon.alloc _).mod (mod_putRow _ _ _ _) (by exact fun h => H4.out.1.ne3 h.symm), putSec_length _ _ _ _ H4.out.1.len hi hS, H4.out.1.most⟩
    have I5 : IterBlk (putRow (w4.alloc (.cells (nums .u8 S) 73)) sb (i * 64) (nums .u8 S)) r mb (ck + 1) #[ck] (ck + 1) :=
      (i4.mod ((Mod.refl (fun _ => False) _).alloc _) id).mod (mod_putRow _ _ _ _) (by exact Nat.ne_of_gt hs2)
    have M5 : Mod (fun j => j = d ∨ j = sb) w (putRow (w4.alloc (.cells (nums .u8 S) 73)) sb (i * 64) (nums .u8 S)) :=
      ((H3.out.2.2.trans' H4.out.2 (fun _ h => Or.inl h) (by intro j hj h; omega)).alloc _).trans ((mod_putRow _ _ _ _).mono (fun _ h => .inr h))
    generalize putRow (w4.alloc (.cells (nums .u8 S) 73)) sb (i * 64) (nums .u8 S) = w5 at *
    have H5 := Fact.mk (And.intro D5 (And.intro I5 M5))
    have c5 := D5.disk.cell 1
    have hm5 := D5.soon
    have hcl := fun W => run_clear_map (P := Try.prog) W 48 0 3 73 Try.underlying48 mb (ck + 1) (toEs [⟨i, .agg (nums .u8 S), ck⟩])
    clear D5 I5 M5 he hm4 c0 p4 i4
    simp only [Exit.inBlock, Exit.then]
    rw [rounds_succ]
    go_wp2_with (refine wpl_next_done rfl _ rfl r mb (ck + 1) rfl [⟨i, .agg (nums .u8 S), ck⟩] #[ck] (by exact H5.out.1.soon) (by exact H5.out.2.1) (by simp) (by simp) ?_)
    go_ret
    have D6 : DiskAt (putMap w5 mb (toEs []) (ck + 1)) d sb mb N (putSec SU i S) [] (ck + 1) :=
      ⟨H5.out.1.disk.mod (mod_putMap _ _ _ _) (by exact H5.out.1.ne2), H5.out.1.sure.mod (mod_putMap _ _ _ _) (by exact H5.out.1.ne3), H5.out.1.soon.put _ _, H5.out.1.len, H5.out.1.most⟩
    exact ⟨rfl, D6.drew, ((H5.out.2.2.mono (by intro j h; omega)).trans ((mod_putMap _ _ _ _).mono (fun _ h => .inr (.inl h)))).drew⟩

/-- A sure sector. -/
def sec (SU : List Int) (i : Nat) : List Int := (SU.drop (i * 64)).take 64
theorem sec_length (SU : List Int) (i N : Nat) (h : SU.length = N * 64) (hi : i < N) : (sec SU i).length = 64 := by
  unfold sec
  rw [List.length_take, List.length_drop]
  omega
theorem zero_sector_v : (Try.prog.info? 73).bind (·.zero) = some (.agg (nums .u8 (zeros 64))) := by kernel_rfl

/-- 'Sector{}'. -/
theorem run_buildSector (W : World) : (Instr.build 73 #[]).run Try.prog W = .ok (.agg (nums .u8 (zeros 64))) W := by
  obtain ⟨i, hi, hz⟩ := Option.bind_eq_some_iff.1 zero_sector_v
  obtain ⟨j, hj, hs⟩ := Option.map_eq_some_iff.1 size_u8
  have hsz : (Try.prog.info? 5) = some j := hj
  simp [Instr.build, zeroValue, typeInfo, hi, hz, run_underlying Try.underlying73, sizeOf, hsz, Instr.fill, Value.cells]

section
variable {dst : Option Tmp} {ty : TypeId} {pos : String} {after : Array Edge} {gd : Option (Nat × Bool)} {a : Act} {w : World} {K : Act → World → Prop} {Q : Exit → Act → World → Prop}
@[go_sem ↓] theorem wp_bu_sector : Oper.wp Try.prog ⟨dst, .build 73 #[], ty, pos, after, gd⟩ a w K Q = K (a.put dst (.agg (nums .u8 (zeros 64)))) w := by
  have := run_buildSector w
  unfold Oper.wp
  simp only [execOp, Sem.run_bind, Array.map_empty, this, Sem.run_pure, Result.andThen_ok, Oper.upon_value]
end

set_option maxHeartbeats 1000000 in
theorem read_ok (d sb mb N i : Nat) (SU : List Int) (ck : Nat) (w : World) (g : Nat) (hg : w.heap.size = g) (hD : DiskAt w d sb mb N SU [] ck) (hi : i < N) :
    Calls Try.prog 27 #[.pointer (some ⟨d, 0, none⟩), .int .i64 i] w fun e w' => e = .returned (.tuple #[.agg (nums .u8 (sec SU i)), .int .i64 0]) ∧ Below g w w' := by
  have HD := Fact.mk hD
  have c0 := hD.disk.cell 0
  have c1 := hD.disk.cell 1
  have hd : d < g := by have := hD.disk.lt; omega
  have hs : sb < g := by have := hD.sure.lt; omega
  have hm0 : mb < g := by have := hD.soon.lt; omega
  have hm := hD.soon
  have q1 := HasRow.of_blk hD.sure (i * 64) 64 (by rw [nums_size, hD.len]; omega)
  have q2 := rowAt_blk hD.sure (i * 64) 64 (by rw [nums_size, hD.len]; omega)
  have q3 : (nums .u8 SU).extract (i * 64) (i * 64 + 64) = nums .u8 (sec SU i) := by
    simp [nums, sec, List.extract]
  rw [q3] at q2
  have hl := sec_length SU i N hD.len hi
  clear hD q3
  have hlk := fun W => run_lookup_ok (P := Try.prog) W 48 3 73 Try.underlying48 Try.underlying3 _ zero_sector_v mb [] ck i
  have hfn : findE [] (i : Int) = none := rfl
  have hs1 : sb < g + 1 := by omega
  have hs2 : sb < g + 1 + 1 := by omega
  have hg2 : g < g + 1 + 1 := by omega
  have hdec : decide ((0 : Int) ≤ i ∧ (i : Int) < N) = true := by simp; omega
  have HDEC := Fact.mk hdec
  clear hdec
  go_enter Try.func27, Try.ntmps27
  go_wp2_with (go_at_call 33; refine (has_any d i _ N N _ (by exact (HD.out.disk.alloc _).cell 0)).mono ?_; rintro e w1 ⟨rfl, rfl⟩; rw [HDEC.out])
  have hb := blk_putRow ((Blk.new' w g (nums .u8 (zeros 64)) 73 hg.symm).alloc (.cells (nums .u8 (zeros 64)) 73)) 0 (nums .u8 (sec SU i))
  rw [aSplice_whole _ _ (by rw [nums_size, nums_size, hl, zeros_length])] at hb
  refine bodyPost_ret (results_cell_tmp rfl _ _ ⟨g, 0, none⟩ 64 _ rfl Try.underlying73 rfl size_sector (HasRow.of_blk hb 0 64 (by rw [nums_size, hl]; omega))) rfl
    ⟨by rw [rowAt_whole hb 64 (by rw [nums_size, hl])]; rfl, (((Below.refl _ _).alloc (by omega) _).alloc (by rw [World.size_alloc]; omega) _).trans ((mod_putRow _ _ _ _).toBelow (by rw [World.size_alloc, World.size_alloc]; omega) (by intro i h; omega))⟩

set_option maxHeartbeats 1000000 in
theorem read_end (d sb mb N i : Nat) (SU : List Int) (ck : Nat) (w : World) (g : Nat) (hg : w.heap.size = g) (hD : DiskAt w d sb mb N SU [] ck) (hi : N ≤ i) :
    Calls Try.prog 27 #[.pointer (some ⟨d, 0, none⟩), .int .i64 i] w fun e w' => e = .returned (.tuple #[.agg (nums .u8 (zeros 64)), .int .i64 1]) ∧ Below g w w' := by
  have HD := Fact.mk hD
  clear hD
  have hdec : decide ((0 : Int) ≤ i ∧ (i : Int) < N) = false := by simp; omega
  have HDEC := Fact.mk hdec
  clear hdec
  go_enter Try.func27, Try.ntmps27
  go_wp2_with (go_at_call 33; refine (has_any d i _ N N _ (by exact (HD.out.disk.alloc _).cell 0)).mono ?_; rintro e w1 ⟨rfl, rfl⟩; rw [HDEC.out])
  have hb := Blk.new' w g (nums .u8 (zeros 64)) 73 hg.symm
  refine bodyPost_ret (results_cell_tmp rfl _ _ ⟨g, 0, none⟩ 64 _ rfl Try.underlying73 rfl size_sector (HasRow.of_blk hb 0 64 (by rw [nums_size, zeros_length]; omega))) rfl
    ⟨by rw [rowAt_whole hb 64 (by rw [nums_size, zeros_length])]; rfl, ((Below.refl _ _).alloc (by omega) _)⟩
end Go.Proofs.Ytcdjglkcblphlaa
