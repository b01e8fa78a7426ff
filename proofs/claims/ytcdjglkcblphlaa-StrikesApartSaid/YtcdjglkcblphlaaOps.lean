/- Ledger.Add, Clear and Of, walked. -/
import Derived.Test.YtcdjglkcblphlaaProg
import Derived.Test.YtcdjglkcblphlaaBase
import Derived.Test.YtcdjglkcblphlaaMaps
import Derived.Test.YtcdjglkcblphlaaLed
import Derived.Test.YtcdjglkcblphlaaTake
import Derived.Test.YtcdjglkcblphlaaKeep
import Derived.Deep.QuietTactic
import Derived.BigQuiet
set_option linter.unusedVariables false
set_option linter.unusedSimpArgs false
namespace Go.Proofs.Ytcdjglkcblphlaa
open Go.RowKit

theorem zero_strike_v : (Try.prog.info? 55).bind (·.zero) = some (.agg #[.int .i64 0, .int .i64 0, .bool false]) := by kernel_rfl
/-- 'v, ok := l.l[id]'. -/
theorem run_look (lm : Nat) (E : List Ent) (mck : Nat) (k : Int) (r : Option Value) (hr : findE E k = r) (W : World) (hM : MapBlk W lm (toEs E) mck) :
    (Instr.lookup 57 (.map (some lm)) (.int .i64 k) true).run Try.prog W = .ok (.tuple #[r.getD (.agg #[.int .i64 0, .int .i64 0, .bool false]), .bool r.isSome]) W := by
  subst hr
  exact run_lookup_ok (P := Try.prog) W 57 3 55 Try.underlying57 Try.underlying3 _ zero_strike_v lm E mck k hM

set_option maxHeartbeats 2000000 in
theorem add_ok (F : Nat → Prop) (lb N many : Nat) (l : List St) (acc id now : Int) (w : World) (h : Led w F lb N many l) (hF : ∀ i, w.heap.size ≤ i → F i) (hmany : many < N) (hf : findS l id = none)
    (ha0 : 0 ≤ acc) (ha1 : acc < 8) (hi0 : 0 ≤ id) (hi1 : id ≤ 1000000) (hn0 : 0 ≤ now) (hn1 : now ≤ 1000000) :
    Calls Try.prog 9 #[.pointer (some ⟨lb, 0, none⟩), .int .i64 acc, .int .i64 id, .int .i64 now] w fun e w' => e = .returned (.int .i64 0) ∧
      Led w' F lb N (many + 1) (l ++ [⟨id, acc, now, false⟩]) ∧ Mod F w w' := by
  obtain ⟨j, lm, d, sb, mb, SU, ck, lv, xs, E, mck, hL⟩ := h
  have l1 : w.cell? ⟨lb, 1, none⟩ = some (.map (some lm)) := hL.led.cell 1
  have hfE : findE E id = none := by rw [hL.hold.find, hf]; rfl
  have hlk := run_look lm E mck id none hfE
  simp only [Option.getD_none, Option.isSome_none] at hlk
  have hM := hL.map
  have HF := Fact.mk (And.intro hL hF)
  clear hL hF
  go_enter Try.func9, Try.ntmps9
  go_wp2_with (first | (go_at_call 16; first | (with_reducible refine (stime_ok id _ hi0 hi1).mono ?_; rintro e w1 ⟨rfl, rfl⟩) | (with_reducible refine (stime_ok now _ hn0 hn1).mono ?_; rintro e w1 ⟨rfl, rfl⟩)) | (go_at_call 17; fail))
  have A := HF.out.1
  have m0 : Mod (fun _ => False) w1 (w1.alloc (.cells #[.int .i64 0, .int .i64 0, .bool false] 55)) := (Mod.refl _ _).alloc _
  have hj := A.jrn.mod m0 (fun h => h) (fun h => h) (fun h => h) (fun h => h) (fun _ _ h => h)
  refine (keep_ok lb j lm d sb mb N many SU ck lv xs E (updE E id (.agg #[.int .i64 acc, .int .i64 now, .bool false]) mck) mck (updCk E id mck) 1 acc id now _ (A.led.mod m0 (fun h => h)) hj (A.map.mod m0 (fun h => h)) A.ne hmany ha0 ha1 hi0 hi1 hn0 hn1
    (fun W b c hc hLW hMW hcells => take_add lb lm b c _ acc id now E mck W hLW hMW A.hold.keys hfE hcells hc ha0 ha1 hi0 hi1 hn0 hn1)).mono ?_
  rintro e w2 ⟨rfl, SU', ck', lv', xs', J2, L2, M2, hlv, m2⟩
  obtain ⟨f1, f2, f3, f4, f5, f6, f7⟩ := A.foot
  have H2 := Fact.mk (And.intro J2 (And.intro L2 (And.intro M2 (And.intro hlv m2))))
  clear J2 L2 M2 hlv m2 hj m0 A
  go_wp2
  go_ret
  refine ⟨rfl, ⟨j, lm, d, sb, mb, SU', ck', lv', xs', _, _, H2.out.2.1, H2.out.1, H2.out.2.2.1, HF.out.1.hold.add ⟨id, acc, now, false⟩ hf ⟨ha0, ha1, hn0, hn1⟩, HF.out.1.ne, ⟨f1, f2, f3, f4, f5, f6, ?_⟩, by simpa using HF.out.1.few, hmany⟩, ?_⟩
  · intro k hk
    rcases H2.out.2.2.2.1 with h | ⟨k', h, hk'⟩
    · exact f7 k (h ▸ hk)
    · rw [h] at hk; cases hk; exact HF.out.2 _ (by simp at hk'; omega)
  · refine ((Mod.refl F w1).alloc _).trans (H2.out.2.2.2.2.mono ?_)
    rintro i (rfl | rfl | rfl | rfl | rfl | h) <;> first | assumption | exact f7 _ h

set_option maxHeartbeats 2000000 in
theorem add_twice (F : Nat → Prop) (lb N many : Nat) (l : List St) (acc id now : Int) (s : St) (w : World) (h : Led w F lb N many l) (hf : findS l id = some s)
    (ha0 : 0 ≤ acc) (ha1 : acc < 8) (hi0 : 0 ≤ id) (hi1 : id ≤ 1000000) (hn0 : 0 ≤ now) (hn1 : now ≤ 1000000) :
    Calls Try.prog 9 #[.pointer (some ⟨lb, 0, none⟩), .int .i64 acc, .int .i64 id, .int .i64 now] w fun e w' => e = .returned (.int .i64 9) ∧ Below w.heap.size w w' := by
  obtain ⟨j, lm, d, sb, mb, SU, ck, lv, xs, E, mck, hL⟩ := h
  have l1 : w.cell? ⟨lb, 1, none⟩ = some (.map (some lm)) := hL.led.cell 1
  have hfE : findE E id = some (.agg #[.int .i64 s.acc, .int .i64 s.time, .bool s.cl]) := by rw [hL.hold.find, hf]; rfl
  have hlk := run_look lm E mck id _ hfE
  simp only [Option.getD_some, Option.isSome_some] at hlk
  have hM := hL.map
  clear hL
  go_enter Try.func9, Try.ntmps9
  go_wp2_with (first | (go_at_call 16; first | (with_reducible refine (stime_ok id _ hi0 hi1).mono ?_; rintro e w1 ⟨rfl, rfl⟩) | (with_reducible refine (stime_ok now _ hn0 hn1).mono ?_; rintro e w1 ⟨rfl, rfl⟩)) | (go_at_call 17; fail))
  go_ret
  exact ⟨rfl, (Below.refl _ _).alloc (Nat.le_refl _) _⟩

set_option maxHeartbeats 2000000 in
theorem clear_ok (F : Nat → Prop) (lb N many : Nat) (l : List St) (id now : Int) (s : St) (w : World) (h : Led w F lb N many l) (hF : ∀ i, w.heap.size ≤ i → F i) (hmany : many < N) (hf : findS l id = some s) (hcl : s.cl = false)
    (hi0 : 0 ≤ id) (hi1 : id ≤ 1000000) (hn0 : 0 ≤ now) (hn1 : now ≤ 1000000) :
    Calls Try.prog 12 #[.pointer (some ⟨lb, 0, none⟩), .int .i64 id, .int .i64 now] w fun e w' => e = .returned (.int .i64 0) ∧
      Led w' F lb N (many + 1) (clrS l id) ∧ Mod F w w' := by
  obtain ⟨j, lm, d, sb, mb, SU, ck, lv, xs, E, mck, hL⟩ := h
  have l1 : w.cell? ⟨lb, 1, none⟩ = some (.map (some lm)) := hL.led.cell 1
  have hfE : findE E id = some (.agg #[.int .i64 s.acc, .int .i64 s.time, .bool false]) := by rw [hL.hold.find, hf, ← hcl]; rfl
  have hlk := run_look lm E mck id _ hfE
  simp only [Option.getD_some, Option.isSome_some] at hlk
  have hM := hL.map
  obtain ⟨ha0, ha1, ht0, ht1⟩ := hL.hold.ok s (Holds.mem_of_find hf).1
  have HF := Fact.mk (And.intro hL hF)
  clear hL hF
  go_enter Try.func12, Try.ntmps12
  go_wp2_with (first | (go_at_call 16; first | (with_reducible refine (stime_ok id _ hi0 hi1).mono ?_; rintro e w1 ⟨rfl, hw⟩; subst hw) | (with_reducible refine (stime_ok now _ hn0 hn1).mono ?_; rintro e w1 ⟨rfl, hw⟩; subst hw)) | (go_at_call 17; fail))
  have A := HF.out.1
  have m0 : Mod (fun _ => False) w (w.alloc (.cells #[.int .i64 s.acc, .int .i64 s.time, .bool false] 55)) := (Mod.refl _ _).alloc _
  have hj := A.jrn.mod m0 (fun h => h) (fun h => h) (fun h => h) (fun h => h) (fun _ _ h => h)
  refine (keep_ok lb j lm d sb mb N many SU ck lv xs E (updE E id (.agg #[.int .i64 s.acc, .int .i64 s.time, .bool true]) mck) mck (updCk E id mck) 2 s.acc id now _ (A.led.mod m0 (fun h => h)) hj (A.map.mod m0 (fun h => h)) A.ne hmany ha0 ha1 hi0 hi1 hn0 hn1
    (fun W b c hc hLW hMW hcells => take_clear lb lm b c _ s.acc id now s.time false E mck W hLW hMW A.hold.keys hfE hcells hc ha0 ha1 hi0 hi1 hn0 hn1)).mono ?_
  rintro e w2 ⟨rfl, SU', ck', lv', xs', J2, L2, M2, hlv, m2⟩
  obtain ⟨f1, f2, f3, f4, f5, f6, f7⟩ := A.foot
  have H2 := Fact.mk (And.intro J2 (And.intro L2 (And.intro M2 (And.intro hlv m2))))
  clear J2 L2 M2 hlv m2 hj m0 A
  go_wp2
  go_ret
  refine ⟨rfl, ⟨j, lm, d, sb, mb, SU', ck', lv', xs', _, _, H2.out.2.1, H2.out.1, H2.out.2.2.1, HF.out.1.hold.clr id s hf, HF.out.1.ne, ⟨f1, f2, f3, f4, f5, f6, ?_⟩, by have := HF.out.1.few; unfold clrS; rw [List.length_map]; omega, hmany⟩, ?_⟩
  · intro k hk
    rcases H2.out.2.2.2.1 with h | ⟨k', h, hk'⟩
    · exact f7 k (h ▸ hk)
    · rw [h] at hk; cases hk; exact HF.out.2 _ (by simp at hk'; omega)
  · refine ((Mod.refl F w).alloc _).trans (H2.out.2.2.2.2.mono ?_)
    rintro i (rfl | rfl | rfl | rfl | rfl | h) <;> first | assumption | exact f7 _ h

set_option maxHeartbeats 2000000 in
theorem clear_old (F : Nat → Prop) (lb N many : Nat) (l : List St) (id now : Int) (s : St) (w : World) (h : Led w F lb N many l) (hf : findS l id = some s) (hcl : s.cl = true)
    (hi0 : 0 ≤ id) (hi1 : id ≤ 1000000) (hn0 : 0 ≤ now) (hn1 : now ≤ 1000000) :
    Calls Try.prog 12 #[.pointer (some ⟨lb, 0, none⟩), .int .i64 id, .int .i64 now] w fun e w' => e = .returned (.int .i64 5) ∧ Below w.heap.size w w' := by
  obtain ⟨j, lm, d, sb, mb, SU, ck, lv, xs, E, mck, hL⟩ := h
  have l1 : w.cell? ⟨lb, 1, none⟩ = some (.map (some lm)) := hL.led.cell 1
  have hfE : findE E id = some (.agg #[.int .i64 s.acc, .int .i64 s.time, .bool true]) := by rw [hL.hold.find, hf, ← hcl]; rfl
  have hlk := run_look lm E mck id _ hfE
  simp only [Option.getD_some, Option.isSome_some] at hlk
  have hM := hL.map
  clear hL
  go_enter Try.func12, Try.ntmps12
  go_wp2_with (first | (go_at_call 16; first | (with_reducible refine (stime_ok id _ hi0 hi1).mono ?_; rintro e w1 ⟨rfl, hw⟩; subst hw) | (with_reducible refine (stime_ok now _ hn0 hn1).mono ?_; rintro e w1 ⟨rfl, hw⟩; subst hw)) | (go_at_call 17; fail))
  go_ret
  exact ⟨rfl, (Below.refl _ _).alloc (Nat.le_refl _) _⟩

set_option maxHeartbeats 2000000 in
theorem clear_none (F : Nat → Prop) (lb N many : Nat) (l : List St) (id now : Int) (w : World) (h : Led w F lb N many l) (hf : findS l id = none)
    (hi0 : 0 ≤ id) (hi1 : id ≤ 1000000) (hn0 : 0 ≤ now) (hn1 : now ≤ 1000000) :
    Calls Try.prog 12 #[.pointer (some ⟨lb, 0, none⟩), .int .i64 id, .int .i64 now] w fun e w' => e = .returned (.int .i64 7) ∧ Below w.heap.size w w' := by
  obtain ⟨j, lm, d, sb, mb, SU, ck, lv, xs, E, mck, hL⟩ := h
  have l1 : w.cell? ⟨lb, 1, none⟩ = some (.map (some lm)) := hL.led.cell 1
  have hfE : findE E id = none := by rw [hL.hold.find, hf]; rfl
  have hlk := run_look lm E mck id _ hfE
  simp only [Option.getD_none, Option.isSome_none] at hlk
  have hM := hL.map
  clear hL
  go_enter Try.func12, Try.ntmps12
  go_wp2_with (first | (go_at_call 16; first | (with_reducible refine (stime_ok id _ hi0 hi1).mono ?_; rintro e w1 ⟨rfl, hw⟩; subst hw) | (with_reducible refine (stime_ok now _ hn0 hn1).mono ?_; rintro e w1 ⟨rfl, hw⟩; subst hw)) | (go_at_call 17; fail))
  go_ret
  exact ⟨rfl, (Below.refl _ _).alloc (Nat.le_refl _) _⟩

set_option maxHeartbeats 2000000 in
theorem of_ok (F : Nat → Prop) (lb N many : Nat) (l : List St) (id : Int) (s : St) (w : World) (h : Led w F lb N many l) (hf : findS l id = some s) :
    Calls Try.prog 10 #[.pointer (some ⟨lb, 0, none⟩), .int .i64 id] w fun e w' => e = .returned (.tuple #[.int .i64 s.acc, .bool s.cl, .bool true]) ∧ Below w.heap.size w w' := by
  obtain ⟨j, lm, d, sb, mb, SU, ck, lv, xs, E, mck, hL⟩ := h
  have l1 : w.cell? ⟨lb, 1, none⟩ = some (.map (some lm)) := hL.led.cell 1
  have hfE : findE E id = some (.agg #[.int .i64 s.acc, .int .i64 s.time, .bool s.cl]) := by rw [hL.hold.find, hf]; rfl
  have hlk := run_look lm E mck id _ hfE
  simp only [Option.getD_some, Option.isSome_some] at hlk
  have hM := hL.map
  clear hL
  go_enter Try.func10, Try.ntmps10
  go_wp2_with fail
  go_quiet (fail)
  go_wp2
  go_ret3
  exact ⟨rfl, ((Mod.below ((Below.refl _ _).alloc (Nat.le_refl _) _)).drewN _).toBelow (Nat.le_refl _) (fun _ h => h)⟩
end Go.Proofs.Ytcdjglkcblphlaa
