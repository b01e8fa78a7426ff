/- Ledger.Count and Suspended, walked. -/
import Derived.Test.YtcdjglkcblphlaaProg
import Derived.Test.YtcdjglkcblphlaaBase
import Derived.Test.YtcdjglkcblphlaaMaps
import Derived.Test.YtcdjglkcblphlaaLed
import Derived.Test.YtcdjglkcblphlaaTake
set_option linter.unusedVariables false
set_option linter.unusedSimpArgs false
namespace Go.Proofs.Ytcdjglkcblphlaa
open Go.RowKit

/-- Does a strike count? -/
def cnts (acc now : Int) (s : St) : Bool := decide (s.acc = acc) && !s.cl && decide (s.time ≤ now) && decide (now - s.time ≤ 100)
def cntS (l : List St) (acc now : Int) : Nat := l.countP (cnts acc now)
theorem cnts_iff (acc now : Int) (s : St) : cnts acc now s = true ↔ s.acc = acc ∧ ¬ s.cl = true ∧ s.time ≤ now ∧ now - s.time ≤ 100 := by
  simp [cnts, and_assoc]
/-- Of the entries of which 'seen' holds so many count. -/
def cntE (E : List Ent) (l : List St) (acc now : Int) (seen : Array Nat) : Nat := (E.zip l).countP (fun p => decide (p.1.born ∈ seen) && cnts acc now p.2)
theorem cntE_none (E : List Ent) (l : List St) (acc now : Int) : cntE E l acc now #[] = 0 := by simp [cntE]
theorem cntE_all (acc now : Int) (seen : Array Nat) : ∀ (E : List Ent) (l : List St), E.length = l.length → (∀ e ∈ E, e.born ∈ seen) → cntE E l acc now seen = cntS l acc now
  | [], [], _, _ => rfl
  | e :: E, s :: l, h, ha => by
    have ih := cntE_all acc now seen E l (by simpa using h) (fun e he => ha e (List.mem_cons_of_mem _ he))
    unfold cntE cntS at *
    simp only [List.zip_cons_cons, List.countP_cons, ih]
    simp [ha e (by simp)]
  | [], s :: l, h, _ => by simp at h
  | e :: E, [], h, _ => by simp at h
theorem cntE_not (acc now : Int) (seen : Array Nat) (b : Nat) : ∀ (E : List Ent) (l : List St), (∀ e ∈ E, ¬ e.born = b) → cntE E l acc now (seen.push b) = cntE E l acc now seen
  | [], l, _ => by simp [cntE]
  | e :: E, [], _ => by simp [cntE]
  | e :: E, s :: l, h => by
    have ih := cntE_not acc now seen b E l (fun e he => h e (List.mem_cons_of_mem _ he))
    have h0 := h e (by simp)
    unfold cntE at *
    simp only [List.zip_cons_cons, List.countP_cons, ih]
    simp [h0]
/-- One more is seen. -/
theorem cntE_push (acc now : Int) (seen : Array Nat) (x : Ent) (hx : x.born ∉ seen) : ∀ (E : List Ent) (l : List St), (E.map (·.born)).Nodup → x ∈ E → E.map (fun e => (e.key, e.val)) = l.map (fun s => (s.key, s.val)) →
    ∃ s ∈ l, x.val = s.val ∧ cntE E l acc now (seen.push x.born) = cntE E l acc now seen + (if cnts acc now s then 1 else 0)
  | [], _, _, h, _ => by simp at h
  | e :: E, [], _, _, h => by simp at h
  | e :: E, s :: l, hn, h, hs => by
    simp only [List.map_cons, List.nodup_cons, List.mem_map, not_exists, not_and] at hn
    simp only [List.map_cons, List.cons.injEq, Prod.mk.injEq] at hs
    rcases List.mem_cons.1 h with rfl | h
    · refine ⟨s, by simp, hs.1.2, ?_⟩
      have := cntE_not acc now seen x.born E l (fun e he hb => hn.1 e he hb)
      unfold cntE at *
      simp only [List.zip_cons_cons, List.countP_cons, this]
      simp [hx]
    · obtain ⟨t, ht, hv, hc⟩ := cntE_push acc now seen x hx E l hn.2 h hs.2
      refine ⟨t, List.mem_cons_of_mem _ ht, hv, ?_⟩
      have hne : ¬ e.born = x.born := fun hb => hn.1 x h hb.symm
      unfold cntE at *
      simp only [List.zip_cons_cons, List.countP_cons, hc]
      simp [hne]
      omega
theorem cntS_le (l : List St) (acc now : Int) : cntS l acc now ≤ l.length := List.countP_le_length
theorem cntE_le (E : List Ent) (l : List St) (acc now : Int) (seen : Array Nat) : cntE E l acc now seen ≤ l.length := by
  unfold cntE
  refine Nat.le_trans List.countP_le_length ?_
  simp
  omega
/-- How many are left. -/
def leftE (E : List Ent) (seen : Array Nat) : Nat := E.countP (fun e => decide (e.born ∉ seen))
theorem leftE_push (seen : Array Nat) (x : Ent) (hx : x.born ∉ seen) : ∀ (E : List Ent), x ∈ E → leftE E (seen.push x.born) < leftE E seen
  | [], h => by simp at h
  | e :: E, h => by
    have hle : ∀ E : List Ent, leftE E (seen.push x.born) ≤ leftE E seen := by
      intro E
      unfold leftE
      refine List.countP_mono_left ?_
      intro e he h
      simp at h ⊢
      exact h.1
    rcases List.mem_cons.1 h with rfl | h
    · have := hle E
      unfold leftE at *
      simp only [List.countP_cons]
      simp [hx] at this ⊢
      omega
    · have := leftE_push seen x hx E h
      unfold leftE at *
      simp only [List.countP_cons]
      by_cases h1 : e.born ∈ seen
      · simp [h1] at this ⊢; exact this
      · by_cases h2 : e.born = x.born
        · simp [h2, hx] at this ⊢; omega
        · simp [h1, h2] at this ⊢; exact this

set_option maxHeartbeats 4000000 in
theorem count_ok (F : Nat → Prop) (lb N many : Nat) (l : List St) (acc now : Int) (w : World) (h : Led w F lb N many l) (hn0 : 0 ≤ now) (hn1 : now ≤ 2000000) :
    Calls Try.prog 11 #[.pointer (some ⟨lb, 0, none⟩), .int .i64 acc, .int .i64 now] w fun e w' => e = .returned (.int .i64 (cntS l acc now)) ∧ Below w.heap.size w w' := by
  obtain ⟨j, lm, d, sb, mb, SU, ck, lv, xs, E, mck, hL⟩ := h
  obtain ⟨g, hg⟩ : ∃ g, w.heap.size = g := ⟨_, rfl⟩
  have l1 : w.cell? ⟨lb, 1, none⟩ = some (.map (some lm)) := hL.led.cell 1
  have hM := hL.map
  have hlm : lm < w.heap.size := hM.lt
  have hlen : E.length = l.length := by simpa using congrArg List.length hL.hold.same
  have hfew : l.length ≤ 64 := Nat.le_trans hL.few (Nat.le_trans hL.fits hL.jrn.dsk.most)
  have hr := fun W => run_range_map (P := Try.prog) W 57 3 55 Try.underlying57 lm mck (toEs E)
  have HF := Fact.mk hL
  clear hL
  go_enter Try.func11, Try.ntmps11
  go_wp2_with fail
  have I0 := iter_new w lm mck
  have M0 : MapBlk (w.alloc (.mapIter (some lm) mck #[] mck)) lm (toEs E) mck := hM.alloc _
  have B0 : Below g w (w.alloc (.mapIter (some lm) mck #[] mck)) := (Below.refl _ _).alloc (by omega) _
  have z0 : (w.alloc (.mapIter (some lm) mck #[] mck)).heap.size = g + 1 := by simp; omega
  have hgF : Fact (∀ W : World, Below g w W → Below w.heap.size w W) := ⟨fun W h => by rw [hg]; exact h⟩
  rw [hg] at hlm I0
  clear hg
  have H0 := Fact.mk (And.intro I0 (And.intro M0 (And.intro B0 z0)))
  clear I0 M0 B0 z0 hM hr l1
  go_loopw [7] (fun v wr => ∃ seen : Array Nat, v = .int .i64 (cntE E l acc now seen) ∧ Fact (IterBlk wr g lm mck seen mck ∧ MapBlk wr lm (toEs E) mck ∧ Below g w wr ∧ g + 1 ≤ wr.heap.size)) (fun _ wr => leftE E (match wr.heap[g]? with | some (.mapIter _ _ seen _) => seen | _ => #[]))
  case atStart => exact ⟨#[], by rw [cntE_none]; rfl, ⟨H0.out.1, H0.out.2.1, H0.out.2.2.1, Nat.le_of_eq H0.out.2.2.2.symm⟩⟩
  case round =>
    obtain ⟨seen, rfl, HI⟩ := hrel
    by_cases hall : ∀ e ∈ E, e.born ∈ seen
    · go_wp2_with (refine wpl_next_done rfl _ rfl g lm mck rfl E seen (by exact HI.out.2.1) (by exact HI.out.1) (by exact HF.out.hold.born) hall ?_)
      go_ret
      exact ⟨by rw [cntE_all acc now seen E l hlen hall]; rfl, hgF.out _ HI.out.2.2.1⟩
    · have hcle := cntE_le E l acc now seen
      have hc64 : (cntE E l acc now seen : Int) ≤ 64 := by omega
      go_wp2_with (refine wpl_next_more rfl _ rfl g lm mck rfl E seen (by exact HI.out.2.1) (by exact HI.out.1) (by exact HF.out.hold.born) hall ?_; rintro x w1 ⟨hx, hxs⟩ ⟨i1⟩ ⟨m1⟩ ⟨z1⟩; obtain ⟨s, hs, hv, hcnt⟩ := cntE_push acc now seen x hxs E l HF.out.hold.once hx HF.out.hold.same; have he : ∀ W, IterBlk W g lm mck (seen.push x.born) mck → MapBlk W lm (toEs E) mck → (Instr.entry (.pointer (some ⟨g, 0, none⟩))).run Try.prog W = .ok (.tuple #[.int .i64 x.key, .agg #[.int .i64 s.acc, .int .i64 s.time, .bool s.cl]]) W := (fun W hI hM => by have := run_entry (P := Try.prog) W g lm mck E seen x hM hI hx HF.out.hold.once; rw [hv] at this; exact this); have hM1 : MapBlk w1 lm (toEs E) mck := HI.out.2.1.mod m1 (by exact Nat.ne_of_lt hlm); have hok := HF.out.hold.ok s hs; have HC := Fact.mk (And.intro hcnt (And.intro i1 (And.intro m1 (And.intro z1 hx)))); clear hcnt m1 z1 hall)
      all_goals
        have m2 : ∀ o, Mod (fun i => i = g) wr (w1.alloc o) := fun o => HC.out.2.2.1.alloc _
        have i2 : ∀ o, IterBlk (w1.alloc o) g lm mck (seen.push x.born) mck := fun o => HC.out.2.1.mod (S := fun _ => False) ((Mod.refl _ _).alloc _) (fun h => h)
        have hgl : g < wr.heap.size := HI.out.2.2.2
        first
        | (have hb : cnts acc now s = true := (cnts_iff acc now s).2 ⟨by assumption, by assumption, by assumption, by assumption⟩
           refine ⟨⟨seen.push x.born, by rw [HC.out.1, if_pos hb]; simp, ?_⟩, ?_⟩)
        | (have hb : ¬ cnts acc now s = true := fun h => by obtain ⟨a1, a2, a3, a4⟩ := (cnts_iff acc now s).1 h; first | contradiction | omega
           refine ⟨⟨seen.push x.born, by rw [HC.out.1, if_neg hb]; simp, ?_⟩, ?_⟩)
        · exact ⟨i2 _, hM1.alloc _, HI.out.2.2.1.trans ((m2 _).toBelow (by omega) (by rintro i rfl; exact Nat.le_refl _)), by rw [World.size_alloc]; have := HC.out.2.2.2.1; have := HI.out.2.2.2; omega⟩
        · simp only [show ∀ o, (w1.alloc o).heap[g]? = some (.mapIter (some lm) mck (seen.push x.born) mck) from fun o => i2 o, show wr.heap[g]? = some (.mapIter (some lm) mck seen mck) from HI.out.1]
          exact leftE_push seen x hxs E HC.out.2.2.2.2

set_option maxHeartbeats 1000000 in
theorem susp_ok (F : Nat → Prop) (lb N many : Nat) (l : List St) (acc now : Int) (w : World) (h : Led w F lb N many l) (hn0 : 0 ≤ now) (hn1 : now ≤ 2000000) :
    Calls Try.prog 13 #[.pointer (some ⟨lb, 0, none⟩), .int .i64 acc, .int .i64 now] w fun e w' => e = .returned (.bool (decide (3 ≤ cntS l acc now))) ∧ Below w.heap.size w w' := by
  have H := Fact.mk h
  clear h
  go_enter Try.func13, Try.ntmps13
  go_wp2_with (go_at_call 11; refine (count_ok F lb N many l acc now _ (by exact H.out) hn0 hn1).mono ?_; rintro e w1 ⟨rfl, l1⟩)
  go_ret
  exact ⟨by simp [Act.put]; omega, l1⟩
end Go.Proofs.Ytcdjglkcblphlaa
