/- begun and awake, walked. -/
import Derived.Test.YtcdjglkcblphlaaProg
import Derived.Test.YtcdjglkcblphlaaBase
import Derived.Test.YtcdjglkcblphlaaMaps
import Derived.Test.YtcdjglkcblphlaaDisk
import Derived.Test.YtcdjglkcblphlaaDiskOps
import Derived.Test.YtcdjglkcblphlaaJOpen
import Derived.Test.YtcdjglkcblphlaaSOpen
import Derived.Test.YtcdjglkcblphlaaLed
import Derived.Test.YtcdjglkcblphlaaOps
import Derived.Test.YtcdjglkcblphlaaCount
set_option linter.unusedVariables false
set_option linter.unusedSimpArgs false
namespace Go.Proofs.Ytcdjglkcblphlaa
open Go.RowKit

set_option maxHeartbeats 1000000 in
theorem sopen_nil (w : World) : Calls Try.prog 14 #[.pointer none] w fun e w' => e = .returned (.tuple #[.pointer none, .int .i64 1]) ∧ Below w.heap.size w w' := by
  refine (callsIn_wide (n := 4)).1 ?_
  refine callsIn_of_wp_marks Try.func14 rfl trivial ?_ rfl
  simp only [Try.ntmps14, List.size_toArray, List.length_cons, List.length_nil, Nat.reduceAdd, Nat.reduceSub, Array.replicate_succ, Array.replicate_zero, List.push_toArray, List.append_toArray, List.nil_append, List.cons_append]
  gi_wp2_with fail
  exact ⟨_, results_tmp2 rfl _ _ _, rfl, Below.refl _ _⟩

theorem led_new (d sb mb N ck g h : Nat) (w : World) (hD : DiskAt w d sb mb N (zeros (N * 64)) [] ck) (hdg : d < g ∧ sb < g ∧ mb < g) (hgh : g < h)
    (hJ : Blk w g #[.pointer (some ⟨d, 0, none⟩), .int .i64 0, .int .i64 N, .slice none 0 0] 68)
    (hL : Blk w (h + 1) #[.pointer (some ⟨g, 0, none⟩), .map (some h)] 59) (hM : MapBlk w h #[] 0) : Led w (fun i => i = d ∨ i = sb ∨ i = mb ∨ g ≤ i) (h + 1) N 0 [] :=
  ⟨g, h, d, sb, mb, zeros (N * 64), ck, .slice none 0 0, [], [], 0, hL, ⟨hJ, hD, ⟨rfl, .inl ⟨rfl, rfl⟩⟩⟩, hM, Holds.nil, by omega,
    ⟨.inr (.inr (.inr (by omega))), .inr (.inr (.inr (by omega))), .inr (.inr (.inr (by omega))), .inl rfl, .inr (.inl rfl), .inr (.inr (.inl rfl)), fun k hk => by simp [Value.ownBlock] at hk⟩, by simp, by omega⟩

set_option maxHeartbeats 1000000 in
theorem begun_ok (d sb mb N ck : Nat) (w : World) (g : Nat) (hg : w.heap.size = g) (hD : DiskAt w d sb mb N (zeros (N * 64)) [] ck) (hN : 1 ≤ N) :
    Calls Try.prog 8 #[.pointer (some ⟨d, 0, none⟩)] w fun e w' => ∃ lb, e = .returned (.tuple #[.pointer (some ⟨g, 0, none⟩), .pointer (some ⟨lb, 0, none⟩)]) ∧
      Led w' (fun i => i = d ∨ i = sb ∨ i = mb ∨ g ≤ i) lb N 0 [] ∧ Below g w w' := by
  have H := Fact.mk hD
  clear hD
  go_enter Try.func8, Try.ntmps8
  go_wp2_with (first | (go_at_call 15; refine (jopen_zero d sb mb N ck _ g hg (by exact H.out) hN).mono ?_; rintro e w1 ⟨rfl, j1, l1⟩; have h1 : g < w1.heap.size := j1.lt; have H1 := Fact.mk (And.intro j1 l1); clear j1 l1) | (go_at_call 14; refine (sopen_none g _ _ _ _ w1.heap.size rfl (by exact H1.out.1)).mono ?_; rintro e w2 ⟨rfl, l2, m2, b2⟩; have H2 := Fact.mk (And.intro l2 (And.intro m2 b2)); clear l2 m2 b2))
  go_ret2
  have hd := H.out.disk.lt
  have hs := H.out.sure.lt
  have hm := H.out.soon.lt
  have B2 : Below g w w2 := H1.out.2.trans (H2.out.2.2.mono (by omega))
  refine ⟨_, rfl, led_new d sb mb N ck g w1.heap.size w2 (H.out.mod (Mod.below B2) (by omega) (by omega) (by omega)) (by omega) h1 (H1.out.1.below H2.out.2.2 h1) H2.out.1 H2.out.2.1, B2⟩

theorem disk_new (N : Nat) (w : World) (g : Nat) (hg : w.heap.size = g) (h1 : 1 ≤ N) (h2 : N ≤ 64) :
    Calls Try.prog 7 #[.int .i64 N] w fun e w' => e = .returned (.tuple #[.pointer (some ⟨g + 2, 0, none⟩), .int .i64 0]) ∧ DiskAt w' (g + 2) g (g + 1) N (zeros (N * 64)) [] 0 ∧ Below g w w' := by
  subst hg
  refine (new_ok N w h1 h2).mono ?_
  rintro e w' ⟨rfl, a, b, c, l⟩
  exact ⟨rfl, ⟨c, a, b, zeros_length _, h2⟩, l⟩

set_option maxHeartbeats 1000000 in
theorem awake_ok (w : World) : Calls Try.prog 6 #[] w fun e w' => e = .returned (.bool true) ∧ Below w.heap.size w w' := by
  obtain ⟨g, hg⟩ : ∃ g, w.heap.size = g := ⟨_, rfl⟩
  go_enter Try.func6, Try.ntmps6
  go_wp2_with (first | (go_at_call 7; refine (disk_new 8 _ g hg (by omega) (by omega)).mono ?_; rintro e w1 ⟨rfl, d1, l1⟩; have H1 := Fact.mk (And.intro d1 l1); clear d1 l1) | (go_at_call 8; refine (begun_ok (g + 2) g (g + 1) 8 0 _ _ rfl (by exact H1.out.1) (by omega)).mono ?_; rintro e w2 ⟨lb, rfl, L2, l2⟩; have H2 := Fact.mk (And.intro L2 l2); clear L2 l2))
  have hs1 : g ≤ w1.heap.size := by have := H1.out.2.size; omega
  have L2 : Led w2 (fun i => g ≤ i) lb 8 0 [] := H2.out.1.mono (fun i _ h => by omega)
  have B2 : Below g w w2 := H1.out.2.trans (H2.out.2.mono hs1)
  have hs2 : g ≤ w2.heap.size := by have := B2.size; omega
  refine (add_ok (fun i => g ≤ i) lb 8 0 [] 2 7 0 w2 L2 (fun i h => by omega) (by omega) rfl (by omega) (by omega) (by omega) (by omega) (by omega) (by omega)).mono ?_
  rintro e w3 ⟨rfl, L3, m3⟩
  have H3 := Fact.mk (And.intro L3 (B2.trans (m3.toBelow hs2 (fun _ h => h))))
  clear L3 m3 L2 B2
  have hs3 : g ≤ w3.heap.size := by have := H3.out.2.size; omega
  go_wp2_with (go_at_call 9; refine (add_twice (fun i => g ≤ i) lb 8 1 [⟨7, 2, 0, false⟩] 2 7 0 ⟨7, 2, 0, false⟩ _ (by exact H3.out.1) rfl (by omega) (by omega) (by omega) (by omega) (by omega) (by omega)).mono ?_; rintro e w4 ⟨rfl, l4⟩; have H4 := Fact.mk (And.intro (H3.out.1.grow l4) (H3.out.2.trans (l4.mono hs3))); clear l4; have hs4 : g ≤ w4.heap.size := (by have := H4.out.2.size; omega))
  refine (sopen_nil w4).mono ?_
  rintro e w5 ⟨rfl, l5⟩
  have H5 := Fact.mk (And.intro (H4.out.1.grow l5) (H4.out.2.trans (l5.mono hs4)))
  clear l5
  have hs5 : g ≤ w5.heap.size := by have := H5.out.2.size; omega
  go_wp2_with fail
  refine (count_ok (fun i => g ≤ i) lb 8 1 [⟨7, 2, 0, false⟩] 2 100 _ (by exact H5.out.1) (by omega) (by omega)).mono ?_
  rintro e w6 ⟨rfl, l6⟩
  have H6 := Fact.mk (And.intro (H5.out.1.grow l6) (H5.out.2.trans (l6.mono hs5)))
  clear l6
  have hs6 : g ≤ w6.heap.size := by have := H6.out.2.size; omega
  have e1 : cntS [⟨7, 2, 0, false⟩] 2 100 = 1 := by decide
  have e2 : cntS [⟨7, 2, 0, false⟩] 2 101 = 0 := by decide
  rw [e1]
  go_wp2_with fail
  refine (count_ok (fun i => g ≤ i) lb 8 1 [⟨7, 2, 0, false⟩] 2 101 _ (by exact H6.out.1) (by omega) (by omega)).mono ?_
  rintro e w7 ⟨rfl, l7⟩
  have B7 := Fact.mk (H6.out.2.trans (l7.mono hs6))
  clear l7
  rw [e2]
  go_wp2_with fail
  go_ret
  exact ⟨rfl, by rw [hg]; exact B7.out⟩
end Go.Proofs.Ytcdjglkcblphlaa
