/- journal.Append, walked. -/
import Derived.Test.YtcdjglkcblphlaaProg
import Derived.Test.YtcdjglkcblphlaaBase
import Derived.Test.YtcdjglkcblphlaaDiskOps
import Derived.Deep.RegionLaw
import Derived.Deep.QuietTactic
import Derived.BigQuiet
import Derived.Deep.RegionHeld3
set_option linter.unusedVariables false
set_option linter.unusedSimpArgs false
namespace Go.Proofs.Ytcdjglkcblphlaa
open Go.RowKit

/-- A journal of a disk, with so many records; what was read of them is not said. -/
structure JournalAt (w : World) (j d sb mb N many : Nat) (SU : List Int) (ck : Nat) (lv : Value) (xs : List Value) : Prop where
  jrn : Blk w j #[.pointer (some ⟨d, 0, none⟩), .int .i64 many, .int .i64 N, lv] 68
  dsk : DiskAt w d sb mb N SU [] ck
  own : w.ownsRow 0 64 1 lv many xs
namespace JournalAt
variable {w : World} {j d sb mb N many : Nat} {SU : List Int} {ck : Nat} {lv : Value} {xs : List Value}
theorem blk_ne {w : World} {a b : Nat} {cs ds : Array Value} {s t : TypeId} (h : Blk w a cs s) (k : Blk w b ds t) (hst : ¬ s = t) : ¬ a = b := by
  rintro rfl
  unfold Blk at h k
  rw [h] at k
  simp only [Option.some.injEq, Obj.cells.injEq] at k
  exact hst k.2.1
theorem blk_ne_map {w : World} {a b : Nat} {cs : Array Value} {s : TypeId} {es : Array MapEntry} {c : Nat} (h : Blk w a cs s) (k : MapBlk w b es c) : ¬ a = b := by
  rintro rfl
  unfold Blk at h; unfold MapBlk at k
  rw [h] at k
  simp at k
theorem own_blk (h : w.ownsRow 0 64 1 lv many xs) (k : Nat) (hk : lv.ownBlock = some k) : ∃ cs, Blk w k cs 64 := by
  rcases h.2 with ⟨rfl, _⟩ | ⟨g, cap, cur, rfl, _, hh, _⟩
  · simp [Value.ownBlock] at hk
  · have : g = k := by simpa [Value.ownBlock] using hk
    subst this
    exact ⟨cur, hh⟩
end JournalAt

theorem elem_row : ElemInfo Try.prog 64 1 24 := by unfold ElemInfo; kernel_rfl

set_option maxHeartbeats 4000000 in
theorem append_ok (j d sb mb N many : Nat) (SU : List Int) (ck : Nat) (lv : Value) (xs : List Value) (A : Option Addr) (c : Nat) (b : List Int) (w : World)
    (hJ : JournalAt w j d sb mb N many SU ck lv xs) (hm : many < N) (hb : b.length ≤ 59) (hx : Reads w .u8 A b)
    (hAd : ∀ a, A = some a → 0 < b.length → ¬ a.block = d ∧ ¬ a.block = sb ∧ ¬ a.block = mb) :
    Calls Try.prog 23 #[.pointer (some ⟨j, 0, none⟩), .slice A b.length c] w fun e w' => e = .returned (.int .i64 0) ∧
      ∃ lv' xs', JournalAt w' j d sb mb N (many + 1) (putSec SU many (sectorB many b)) (ck + 1) lv' xs' ∧ (lv'.ownBlock = lv.ownBlock ∨ ∃ k, lv'.ownBlock = some k ∧ w.heap.size ≤ k) ∧
        Mod (fun i => i = j ∨ i = d ∨ i = sb ∨ i = mb ∨ lv.ownBlock = some i) w w' := by
  have c0 : w.cell? ⟨j, 0, none⟩ = some (.pointer (some ⟨d, 0, none⟩)) := hJ.jrn.cell 0
  have c1 : w.cell? ⟨j, 1, none⟩ = some (.int .i64 many) := hJ.jrn.cell 1
  have c2 : w.cell? ⟨j, 2, none⟩ = some (.int .i64 N) := hJ.jrn.cell 2
  have hjd := JournalAt.blk_ne hJ.jrn hJ.dsk.disk (by decide)
  have hjs := JournalAt.blk_ne hJ.jrn hJ.dsk.sure (by decide)
  have hjm := JournalAt.blk_ne_map hJ.jrn hJ.dsk.soon
  have HJ := Fact.mk (And.intro hJ (And.intro hx hAd))
  have hm' : (many : Int) < N := by omega
  have hN := hJ.dsk.most
  have hb' : (b.length : Int) ≤ 59 := by omega
  clear hJ hx hAd
  go_enter Try.func23, Try.ntmps23
  go_wp2_with fail
  go_quiet (fail)
  go_wp2_with fail
  go_region_held3 (fun w' => w'.cell? ⟨j, 0, none⟩ = some (.pointer (some ⟨d, 0, none⟩)) ∧ w'.cell? ⟨j, 1, none⟩ = some (.int .i64 many)) (first | (constructor <;> assumption) | go_keep)
    (first | (go_at_call 28; (refine (sector_ok many A c b _ _ rfl (by omega) hb (by exact HJ.out.2.1)).mono ?_; rintro e w2 ⟨rfl, l2⟩; have D2 := HJ.out.1.dsk.mod (mod_drewN (mod_drew (Mod.below l2))) (by exact Nat.not_le_of_lt HJ.out.1.dsk.disk.lt) (by exact Nat.not_le_of_lt HJ.out.1.dsk.sure.lt) (by exact Nat.not_le_of_lt HJ.out.1.dsk.soon.lt); have J2 := HJ.out.1.jrn.mod (mod_drewN (mod_drew (Mod.below l2))) (by exact Nat.not_le_of_lt HJ.out.1.jrn.lt); have q0 : w2.cell? ⟨j, 0, none⟩ = some (.pointer (some ⟨d, 0, none⟩)) := J2.cell 0; have q1 : w2.cell? ⟨j, 1, none⟩ = some (.int .i64 many) := J2.cell 1; have H2 := Fact.mk (And.intro D2 (And.intro J2 l2)); clear D2 l2 J2)) | (go_at_call 31; (refine (write_ok d sb mb N many SU (sectorB many b) ck _ (by exact H2.out.1) hm (sectorB_length many b hb)).mono ?_; rintro e w3 ⟨rfl, D3, m3⟩; have J3 := H2.out.2.1.mod m3 (by omega); have r0 : w3.cell? ⟨j, 0, none⟩ = some (.pointer (some ⟨d, 0, none⟩)) := J3.cell 0; have r1 : w3.cell? ⟨j, 1, none⟩ = some (.int .i64 many) := J3.cell 1; have H3 := Fact.mk (And.intro D3 (And.intro J3 m3)); clear D3 m3 J3)))
  have m03 : Mod (fun i => i = d ∨ i = mb) w w3 := (mod_drewN (mod_drew (Mod.belowAll H2.out.2.2 (Nat.le_refl _)))).trans H3.out.2.2
  go_wp2_with fail
  refine (sync_ok d sb mb N many SU (sectorB many b) ck _ (by exact H3.out.1) hm (sectorB_length many b hb)).mono ?_
  rintro e w4 ⟨rfl, D4, m4⟩
  have J4 := H3.out.2.1.mod m4 (by omega)
  have c3 : w4.cell? ⟨j, 3, none⟩ = some lv := J4.cell 3
  have c4 : w4.cell? ⟨j, 1, none⟩ = some (.int .i64 many) := J4.cell 1
  have f3 := J4.free 3
  have f1 := J4.free 1
  have hlt4 : j < w4.heap.size := J4.lt
  go_wp2_with fail
  have m04 : Mod (fun i => i = d ∨ i = mb ∨ i = sb) w w4 := (m03.mono (by intro i h; omega)).trans m4
  have O4 : w4.ownsRow 0 64 1 lv many xs := own_mod HJ.out.1.own m04 (by
    intro k hk
    obtain ⟨cs, hcs⟩ := JournalAt.own_blk HJ.out.1.own k hk
    have h1 := JournalAt.blk_ne hcs HJ.out.1.dsk.disk (by decide)
    have h2 := JournalAt.blk_ne hcs HJ.out.1.dsk.sure (by decide)
    have h3 := JournalAt.blk_ne_map hcs HJ.out.1.dsk.soon
    omega)
  have R4 : Reads w4 .u8 A b := HJ.out.2.1.mod m04 (fun a ha h0 hs => by have := HJ.out.2.2 a ha h0; omega)
  have hlj : ∀ k, lv.ownBlock = some k → ¬ k = j := by
    intro k hk
    obtain ⟨cs, hcs⟩ := JournalAt.own_blk HJ.out.1.own k hk
    exact JournalAt.blk_ne hcs HJ.out.1.jrn (by decide)
  have H4 := Fact.mk (And.intro D4 (And.intro J4 (And.intro m04 (And.intro O4 (And.intro R4 hlj)))))
  have hu5 := Try.underlying64
  have hu6 := Try.underlying66
  clear D4 J4 m04 O4 R4 m03 m4 c0 c1 c2 q0 q1 r0 r1 hlj
  go_region_law
    (first | ((refine step_append rfl (.tmp 52) (.tmp 53) 64 rfl 0 5 1 1 hu5 elem_u8 (by decide) (by decide) (.slice (some ⟨w4.heap.size, 0, none⟩) 0 0) 0 [] (by exact owns_lit (cs := #[]) (n := 0) (size := 1) (Blk.new' _ _ _ _ (by simp)) (Nat.zero_le _) rfl (by simp [maxLen])) A b.length c (b.map (Value.int .u8)) rfl rfl (by simp) (Reads.toV (by exact H4.out.2.2.2.2.1.alloc _)) (nums_oneCell _ _) (by omega) (Nat.zero_le _) ?_; intro v1 w5 o1 g1 a1; have m5 : Mod (fun i => i = w4.heap.size) w4 w5 := ((Mod.refl _ w4).alloc (.cells #[] 5)).trans (Mod.mono (mod_drew (w := w4.alloc (.cells #[] 5)) (Mod.of_grown g1.out)) (by intro i h; simpa [Value.ownBlock] using h.symm)); have J5 := H4.out.2.1.mod m5 (by omega); have c5 : w5.cell? ⟨j, 3, none⟩ = some lv := J5.cell 3; have f5 := J5.free 3; have hlt5 : j < w5.heap.size := J5.lt; obtain ⟨A1, k1, rfl, hk1, hr1, hA1⟩ := owns_reads o1.out; have O5 := own_mod H4.out.2.2.2.1 m5 (by intro k hk; have := own_lt' H4.out.2.2.2.1 k hk; omega); have H5 := Fact.mk (And.intro m5 (And.intro J5 O5)); clear m5 J5 O5 hr1 hA1)) | ((refine step_append rfl (.tmp 51) (.tmp 55) 66 rfl 0 64 1 24 hu6 elem_row (by decide) (by decide) lv many xs (by exact own_mod H5.out.2.2 ((Mod.refl (fun _ => False) _).alloc _) (fun _ _ h => h)) (some ⟨w5.heap.size, 0, none⟩) 1 1 [.slice A1 b.length k1] rfl rfl rfl (by exact ReadsV.of_blk (cs := #[.slice A1 b.length k1]) (Blk.new' _ _ _ _ (by first | rfl | simp))) (by simp [Value.oneCell']) (by omega) (Nat.zero_le _) ?_); intro v2 w6 o2 g2 a2; have m6 : Mod (fun i => lv.ownBlock = some i) w5 w6 := ((Mod.refl _ w5).alloc (.cells #[.slice A1 b.length k1] 64)).trans (Mod.of_grown g2.out); have J6 := H5.out.2.1.mod m6 (fun h => H4.out.2.2.2.2.2 j h rfl); have c6 : w6.cell? ⟨j, 3, none⟩ = some lv := J6.cell 3; have f6 := J6.free 3; have f61 := J6.free 1; have c61 : w6.cell? ⟨j, 1, none⟩ = some (.int .i64 many) := J6.cell 1; have H6 := Fact.mk (And.intro m6 J6); obtain ⟨A2, k2, rfl, hk2, hr2, hA2⟩ := owns_reads o2.out; clear m6 J6 hr2 hA2))
  all_goals
    go_wp2_with fail
    go_ret
    have hs64 : w4.heap.size ≤ w5.heap.size := H5.out.1.size
    have hs04 : w.heap.size ≤ w4.heap.size := H4.out.2.2.1.size
    have hdl : ∀ k, lv.ownBlock = some k → ¬ k = d ∧ ¬ k = sb ∧ ¬ k = mb := by
      intro k hk
      obtain ⟨cs, hcs⟩ := JournalAt.own_blk HJ.out.1.own k hk
      exact ⟨JournalAt.blk_ne hcs HJ.out.1.dsk.disk (by decide), JournalAt.blk_ne hcs HJ.out.1.dsk.sure (by decide), JournalAt.blk_ne_map hcs HJ.out.1.dsk.soon⟩
    have M7 : Mod (fun i => i = w4.heap.size ∨ lv.ownBlock = some i ∨ i = j) w4 ((w6.setCell ⟨j, 3, none⟩ (.slice A2 (many + 1) k2)).setCell ⟨j, 1, none⟩ (.int .i64 ((many : Int) + 1))) :=
      (((H5.out.1.mono (fun i h => .inl h)).trans (H6.out.1.mono (fun i h => .inr (.inl h)))).setCell (by exact .inl (.inr (.inr rfl))) _).setCell (by exact .inl (.inr (.inr rfl))) _
    have dd := H4.out.1.disk.lt
    have ds := H4.out.1.sure.lt
    have dm := H4.out.1.soon.lt
    have D7 := H4.out.1.mod M7 (by rintro (h | h | h) <;> first | omega | exact (hdl d h).1 rfl) (by rintro (h | h | h) <;> first | omega | exact (hdl sb h).2.1 rfl) (by rintro (h | h | h) <;> first | omega | exact (hdl mb h).2.2 rfl)
    have J7 := (H6.out.2.set 3 (.slice A2 (many + 1) k2)).set 1 (.int .i64 ((many : Int) + 1))
    have O7 := own_mod o2.out (((Mod.refl (fun i => i = j) w6).setCell (p := ⟨j, 3, none⟩) (by exact .inl rfl) (.slice A2 (many + 1) k2)).setCell (p := ⟨j, 1, none⟩) (by exact .inl rfl) (.int .i64 ((many : Int) + 1))) (by
      intro k hk
      obtain ⟨cs, hcs⟩ := JournalAt.own_blk o2.out k hk
      exact JournalAt.blk_ne hcs H6.out.2 (by decide))
    refine ⟨rfl, _, _, ⟨J7, D7, O7⟩, ?_, ?_⟩
    · rcases a2.out with h | h
      · exact .inl h
      · exact .inr ⟨_, h, by simp only [World.size_alloc]; omega⟩
    · exact (H4.out.2.2.1.trans' M7 (U := fun i => i = j ∨ i = d ∨ i = sb ∨ i = mb ∨ lv.ownBlock = some i) (by intro i h; rcases h with h | h | h <;> simp [h]) (by intro i hi h; rcases h with h | h | h <;> first | omega | simp [h]))
end Go.Proofs.Ytcdjglkcblphlaa
