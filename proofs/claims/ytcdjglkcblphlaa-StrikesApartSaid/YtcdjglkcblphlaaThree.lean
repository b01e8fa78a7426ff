/- StrikesThree, walked. -/
import Derived.Test.YtcdjglkcblphlaaProg
import Derived.Test.YtcdjglkcblphlaaBase
import Derived.Test.YtcdjglkcblphlaaLed
import Derived.Test.YtcdjglkcblphlaaOps
import Derived.Test.YtcdjglkcblphlaaCount
import Derived.Test.YtcdjglkcblphlaaLaw
set_option linter.unusedVariables false
set_option linter.unusedSimpArgs false
namespace Go.Proofs.Ytcdjglkcblphlaa
open Go.RowKit

theorem Led.keys {w : World} {F : Nat → Prop} {lb N many : Nat} {l : List St} (h : Led w F lb N many l) : (l.map (·.key)).Nodup := by
  obtain ⟨j, lm, d, sb, mb, SU, ck, lv, xs, E, mck, hL⟩ := h
  exact hL.hold.keysS
theorem findS_none {l : List St} {k : Int} (h : ∀ s ∈ l, ¬ s.key = k) : findS l k = none := by
  unfold findS; rw [List.find?_eq_none]; intro s hs; simpa using h s hs
theorem findS_mem {l : List St} {k : Int} (hk : (l.map (·.key)).Nodup) (s : St) (hs : s ∈ l) (he : s.key = k) : findS l k = some s := by
  cases hf : findS l k with
  | none => unfold findS at hf; rw [List.find?_eq_none] at hf; have := hf s hs; simp [he] at this
  | some t => obtain ⟨ht, hk'⟩ := Holds.mem_of_find hf; rw [Holds.eq_of_keys l hk t ht s hs (by rw [hk', he])]

/-- The strikes behind so many rounds. -/
def thr (a o n : Int) : Nat → List St
  | 0 => []
  | i + 1 => thr a o n i ++ [⟨i, a, n, false⟩] ++ [⟨100 + i, o, n, false⟩]
theorem thr_key (a o n : Int) : ∀ (i : Nat) (s : St), s ∈ thr a o n i → (0 ≤ s.key ∧ s.key < i ∧ s.acc = a ∨ 100 ≤ s.key ∧ s.key < 100 + i ∧ s.acc = o) ∧ s.time = n ∧ s.cl = false
  | 0, s, h => by simp [thr] at h
  | i + 1, s, h => by
    simp only [thr, List.mem_append, List.mem_singleton] at h
    rcases h with (h | rfl) | rfl
    · obtain ⟨h1, h2⟩ := thr_key a o n i s h
      exact ⟨by omega, h2⟩
    · exact ⟨.inl ⟨by simp only; omega, by simp only; omega, rfl⟩, rfl, rfl⟩
    · exact ⟨.inr ⟨by simp only; omega, by simp only; omega, rfl⟩, rfl, rfl⟩
theorem thr_mem (a o n : Int) : ∀ (m i : Nat), i < m → (⟨100 + i, o, n, false⟩ : St) ∈ thr a o n m
  | 0, i, h => by omega
  | m + 1, i, h => by
    simp only [thr, List.mem_append, List.mem_singleton]
    rcases Nat.lt_or_ge i m with h | h
    · exact .inl (.inl (thr_mem a o n m i h))
    · obtain rfl : i = m := by omega
      exact .inr rfl
theorem thr_cnt (a o n k : Int) (ho : ¬ o = a) (hk : 0 ≤ k) (hk' : k ≤ 100) : ∀ i, cntS (thr a o n i) a (n + k) = i
  | 0 => rfl
  | i + 1 => by
    have ih := thr_cnt a o n k ho hk hk' i
    unfold cntS at *
    simp only [thr, List.countP_append, ih, List.countP_singleton]
    have h1 : cnts a (n + k) ⟨i, a, n, false⟩ = true := (cnts_iff _ _ _).2 ⟨rfl, by simp, by simp; omega, by simp; omega⟩
    have h2 : ¬ cnts a (n + k) ⟨100 + i, o, n, false⟩ = true := fun h => ho ((cnts_iff _ _ _).1 h).1
    rw [if_pos h1, if_neg h2]
/-- .. and behind so many that were taken back. -/
def thc (a o n : Int) (m i : Nat) : List St := (thr a o n m).map fun s => if 100 ≤ s.key ∧ s.key < 100 + (i : Int) then { s with cl := true } else s
theorem thc_zero (a o n : Int) (m : Nat) : thc a o n m 0 = thr a o n m := by
  unfold thc
  conv => rhs; rw [← List.map_id (thr a o n m)]
  apply List.map_congr_left
  intro s _
  rw [if_neg (by omega)]; rfl
theorem thc_succ (a o n : Int) (m i : Nat) : clrS (thc a o n m i) (100 + i) = thc a o n m (i + 1) := by
  unfold clrS thc
  rw [List.map_map]
  apply List.map_congr_left
  intro s _
  simp only [Function.comp]
  by_cases h : 100 ≤ s.key ∧ s.key < 100 + (i : Int)
  · rw [if_pos h, if_neg (by simp only; omega), if_pos (by omega)]
  · rw [if_neg h]
    by_cases h2 : s.key = 100 + i
    · rw [if_pos h2, if_pos (by omega)]
    · rw [if_neg h2, if_neg (by omega)]
theorem thc_mem (a o n : Int) (m i : Nat) (h : i < m) : (⟨100 + i, o, n, false⟩ : St) ∈ thc a o n m i := by
  unfold thc
  refine List.mem_map.2 ⟨_, thr_mem a o n m i h, ?_⟩
  rw [if_neg (by simp)]
theorem thc_cnt_a (a o n x : Int) (m i : Nat) (hm : m ≤ 10) (ho : ¬ o = a) : cntS (thc a o n m i) a x = cntS (thr a o n m) a x := by
  unfold cntS thc
  rw [List.countP_map]
  apply List.countP_congr
  intro s hs
  obtain ⟨h1, h2, h3⟩ := thr_key a o n m s hs
  simp only [Function.comp]
  by_cases h : 100 ≤ s.key ∧ s.key < 100 + (i : Int)
  · rw [if_pos h]
    have ha : ∀ t : St, t.acc = s.acc → ¬ cnts a x t = true := fun t ht hc => by
      have h5 := ((cnts_iff _ _ _).1 hc).1
      rw [ht] at h5
      rcases h1 with h1 | h1
      · omega
      · exact ho (by rw [← h5, h1.2.2])
    simp only [ha { s with cl := true } rfl, ha s rfl]
  · rw [if_neg h]
theorem cnt_zero {l : List St} {a x : Int} (h : ∀ s ∈ l, ¬ (s.acc = a ∧ s.cl = false ∧ x - s.time ≤ 100)) : cntS l a x = 0 := by
  unfold cntS
  rw [List.countP_eq_zero]
  intro s hs hc
  obtain ⟨h1, h2, h3, h4⟩ := (cnts_iff _ _ _).1 hc
  exact h s hs ⟨h1, by simpa using h2, h4⟩
theorem thc_key (a o n : Int) (m : Nat) (hm : m ≤ 10) (s : St) (hs : s ∈ thc a o n m m) : (s.acc = a ∨ s.cl = true) ∧ s.time = n := by
  unfold thc at hs
  obtain ⟨t, ht, rfl⟩ := List.mem_map.1 hs
  obtain ⟨h1, h2, h3⟩ := thr_key a o n m t ht
  by_cases h : 100 ≤ t.key ∧ t.key < 100 + (m : Int)
  · rw [if_pos h]; exact ⟨.inr rfl, h2⟩
  · rw [if_neg h]; exact ⟨.inl (by omega), h2⟩
theorem thc_cnt_o (a o n x : Int) (m : Nat) (hm : m ≤ 10) (ho : ¬ o = a) : cntS (thc a o n m m) o x = 0 :=
  cnt_zero fun s hs ⟨h1, h2, _⟩ => by
    rcases (thc_key a o n m hm s hs).1 with h | h
    · exact ho (by rw [← h1, h])
    · rw [h] at h2; cases h2
theorem thc_past (a o n b : Int) (m : Nat) (hm : m ≤ 10) : cntS (thc a o n m m) b (n + 101) = 0 :=
  cnt_zero fun s hs ⟨_, _, h3⟩ => by
    have := (thc_key a o n m hm s hs).2
    omega

set_option maxHeartbeats 4000000 in
theorem three_ok (a m n : Int) (w : World) :
    Calls Try.prog 5 #[.int .i64 a, .int .i64 m, .int .i64 n] w fun e w' => e = .returned (.bool true) ∧ Below w.heap.size w w' := by
  obtain ⟨g, hg⟩ : ∃ g, w.heap.size = g := ⟨_, rfl⟩
  go_enter Try.func5, Try.ntmps5
  go_wp2_with (first | (go_at_call 6; refine (awake_ok _).mono ?_; rintro e w1 ⟨rfl, l1⟩; have hs1 : w.heap.size ≤ w1.heap.size := l1.size; have H1 := Fact.mk l1; clear l1) | (go_at_call 7; refine (disk_new 32 _ _ rfl (by omega) (by omega)).mono ?_; rintro e w2 ⟨rfl, d2, l2⟩; have H2 := Fact.mk (And.intro d2 l2); clear d2 l2) | (go_at_call 8; refine (begun_ok _ _ _ 32 0 _ _ rfl (by exact H2.out.1) (by omega)).mono ?_; rintro e w3 ⟨lb, rfl, L3, l3⟩; have H3 := Fact.mk (And.intro L3 l3); clear L3 l3))
  all_goals
    have B3 : Below g w w3 := by
      have h1 := H1.out; have h2 := H2.out.2; have h3 := H3.out.2
      have z1 := h1.size; have z2 := h2.size
      rw [hg] at h1 z1
      exact (h1.trans (h2.mono z1)).trans (h3.mono (by omega))
    first
    | (go_ret; first | exact ⟨rfl, B3⟩ | exact ⟨rfl, by rw [hg]; exact B3⟩)
    | skip
  have hr : ((((0 ≤ a ∧ a ≤ 7) ∧ 0 ≤ m) ∧ m ≤ 10) ∧ 0 ≤ n) ∧ n ≤ 900000 := by assumption
  obtain ⟨o, ho⟩ : ∃ o : Int, o = (a + 1) % 8 := ⟨_, rfl⟩
  have hl : g ≤ w3.heap.size := by have := B3.size; omega
  have L3 : Led w3 (fun i => g ≤ i) lb 32 0 [] := H3.out.1.mono (fun i _ h => by have z1 := H1.out.size; have z2 := H2.out.2.size; omega)
  have H4 := Fact.mk (And.intro L3 (And.intro B3 hr))
  clear L3 B3 H1 H2 H3
  rw [← ho]
  obtain ⟨⟨⟨⟨⟨ra0, ra1⟩, rm0⟩, rm1⟩, rn0⟩, rn1⟩ := hr
  obtain ⟨k, hk⟩ := Int.eq_ofNat_of_zero_le rm0
  subst hk
  have hk10 : k ≤ 10 := by omega
  have hoa : ¬ o = a := by omega
  have ro0 : 0 ≤ o := by omega
  have ro1 : o < 8 := by omega
  clear ho
  have hfin : Fact (∀ W : World, Below g w W → Below w.heap.size w W) := ⟨fun W h => by rw [hg]; exact h⟩
  clear hg hs1
  go_loopw [13] (fun v wr => ∃ i : Nat, i ≤ k ∧ v = .int .i64 i ∧ Fact (Led wr (fun i => g ≤ i) lb 32 (2 * i) (thr a o n i) ∧ Below g w wr ∧ g ≤ wr.heap.size)) (fun v _ => k - (intOf v).toNat)
  case atStart => exact ⟨0, by omega, rfl, ⟨H4.out.1, H4.out.2.1, hl⟩⟩
  case round =>
    obtain ⟨i, hi, rfl, HI⟩ := hrel
    by_cases hlt : i < k
    · have hn1 : findS (thr a o n i) i = none := findS_none fun s hs => by have := (thr_key a o n i s hs).1; omega
      have hn2 : findS (thr a o n i ++ [⟨i, a, n, false⟩]) (100 + i) = none := findS_none fun s hs => by
        rcases List.mem_append.1 hs with hs | hs
        · have := (thr_key a o n i s hs).1; omega
        · simp at hs; subst hs; simp only; omega
      have hc1 : cntS (thr a o n i ++ [⟨i, a, n, false⟩] ++ [⟨100 + i, o, n, false⟩]) a (n + 50) = i + 1 := thr_cnt a o n 50 hoa (by omega) (by omega) (i + 1)
      have HN := Fact.mk (And.intro hn1 (And.intro hn2 hc1))
      clear hn1 hn2 hc1
      go_wp2_with fail
      refine (add_ok (fun i => g ≤ i) lb 32 (2 * i) (thr a o n i) a i n wr (by exact HI.out.1) (fun i h => Nat.le_trans HI.out.2.2 h) (by omega) (by exact HN.out.1) ra0 (by omega) (by omega) (by omega) rn0 (by omega)).mono ?_
      rintro e wA ⟨rfl, LA, mA⟩
      have HA := Fact.mk (And.intro LA (HI.out.2.1.trans (mA.toBelow HI.out.2.2 (fun _ h => h))))
      have hlA : g ≤ wA.heap.size := Nat.le_trans HI.out.2.2 mA.size
      clear LA mA
      go_wp2_with fail
      refine (add_ok (fun i => g ≤ i) lb 32 (2 * i + 1) (thr a o n i ++ [⟨i, a, n, false⟩]) o (100 + i) n wA (by exact HA.out.1) (fun i h => Nat.le_trans hlA h) (by omega) (by exact HN.out.2.1) ro0 ro1 (by omega) (by omega) rn0 (by omega)).mono ?_
      rintro e wB ⟨rfl, LB, mB⟩
      have HB := Fact.mk (And.intro LB (HA.out.2.trans (mB.toBelow hlA (fun _ h => h))))
      have hlB : g ≤ wB.heap.size := Nat.le_trans hlA mB.size
      clear LB mB
      go_wp2_with fail
      refine (count_ok (fun i => g ≤ i) lb 32 _ _ a (n + 50) wB (by exact HB.out.1) (by omega) (by omega)).mono ?_
      rintro e wC ⟨rfl, lC⟩
      rw [HN.out.2.2]
      have HC := Fact.mk (And.intro (HB.out.1.grow lC) (HB.out.2.trans (lC.mono hlB)))
      have hlC : g ≤ wC.heap.size := Nat.le_trans hlB lC.size
      clear lC
      go_wp2_with fail
      refine (susp_ok (fun i => g ≤ i) lb 32 _ _ a (n + 50) wC (by exact HC.out.1) (by omega) (by omega)).mono ?_
      rintro e wD ⟨rfl, lD⟩
      rw [HN.out.2.2]
      have HD := Fact.mk (And.intro (HC.out.1.grow lD) (HC.out.2.trans (lD.mono hlC)))
      have hlD : g ≤ wD.heap.size := Nat.le_trans hlC lD.size
      have hdec : decide (3 ≤ i + 1) = decide ((2 : Int) ≤ i) := by simp; omega
      rw [hdec]
      clear lD hdec
      go_wp2_with fail
      go_roundw
      case rel => exact ⟨i + 1, by omega, by go_num, ⟨HD.out.1, HD.out.2, hlD⟩⟩
      case measure => simp [intOf]; omega
    · obtain rfl : i = k := by omega
      clear hlt H4
      go_wp2_with fail
      have HI2 := HI.out
      clear HI
      go_loopw [14] (fun v wr => ∃ j : Nat, j ≤ i ∧ v = .int .i64 j ∧ Fact (Led wr (fun i => g ≤ i) lb 32 (2 * i + j) (thc a o n i j) ∧ Below g w wr ∧ g ≤ wr.heap.size)) (fun v _ => i - (intOf v).toNat)
      case atStart => exact ⟨0, by omega, rfl, ⟨by rw [thc_zero]; exact HI2.1, HI2.2.1, HI2.2.2⟩⟩
      case round =>
        clear HI2
        obtain ⟨j, hj, rfl, HI⟩ := hrel
        by_cases hlt : j < i
        · have hf : findS (thc a o n i j) (100 + j) = some ⟨100 + j, o, n, false⟩ := findS_mem HI.out.1.keys _ (thc_mem a o n i j hlt) rfl
          have HN := Fact.mk hf
          clear hf
          go_wp2_with fail
          refine (clear_ok (fun i => g ≤ i) lb 32 (2 * i + j) (thc a o n i j) (100 + j) n _ _ (by exact HI.out.1) (fun i h => Nat.le_trans HI.out.2.2 h) (by omega) (by exact HN.out) rfl (by omega) (by omega) rn0 (by omega)).mono ?_
          rintro e wA ⟨rfl, LA, mA⟩
          rw [thc_succ] at LA
          have HA := Fact.mk (And.intro LA (HI.out.2.1.trans (mA.toBelow HI.out.2.2 (fun _ h => h))))
          have hlA : g ≤ wA.heap.size := Nat.le_trans HI.out.2.2 mA.size
          clear LA mA
          go_wp2_with fail
          go_roundw
          case rel => exact ⟨j + 1, by omega, by go_num, ⟨HA.out.1, HA.out.2, hlA⟩⟩
          case measure => simp [intOf]; omega
        · obtain rfl : j = i := by omega
          have e1 : cntS (thc a o n j j) a (n + 100) = j := by rw [thc_cnt_a a o n _ j j hk10 hoa]; exact thr_cnt a o n 100 hoa (by omega) (by omega) j
          have e2 : cntS (thc a o n j j) o n = 0 := thc_cnt_o a o n n j hk10 hoa
          have e3 : cntS (thc a o n j j) a (n + 101) = 0 := thc_past a o n a j hk10
          have HE := Fact.mk (And.intro e1 (And.intro e2 e3))
          clear e1 e2 e3 hlt
          go_wp2_with fail
          refine (count_ok (fun i => g ≤ i) lb 32 _ _ a (n + 100) _ (by exact HI.out.1) (by omega) (by omega)).mono ?_
          rintro e wA ⟨rfl, lA⟩
          rw [HE.out.1]
          have HA := Fact.mk (And.intro (HI.out.1.grow lA) (HI.out.2.1.trans (lA.mono HI.out.2.2)))
          have hlA : g ≤ wA.heap.size := Nat.le_trans HI.out.2.2 lA.size
          clear lA
          go_wp2_with fail
          refine (count_ok (fun i => g ≤ i) lb 32 _ _ o n _ (by exact HA.out.1) (by omega) (by omega)).mono ?_
          rintro e wB ⟨rfl, lB⟩
          rw [HE.out.2.1]
          have HB := Fact.mk (And.intro (HA.out.1.grow lB) (HA.out.2.trans (lB.mono hlA)))
          have hlB : g ≤ wB.heap.size := Nat.le_trans hlA lB.size
          clear lB
          go_wp2_with fail
          refine (susp_ok (fun i => g ≤ i) lb 32 _ _ a (n + 100) _ (by exact HB.out.1) (by omega) (by omega)).mono ?_
          rintro e wC ⟨rfl, lC⟩
          rw [HE.out.1]
          have HC := Fact.mk (And.intro (HB.out.1.grow lC) (HB.out.2.trans (lC.mono hlB)))
          have hlC : g ≤ wC.heap.size := Nat.le_trans hlB lC.size
          have hdec : decide (3 ≤ j) = decide ((3 : Int) ≤ j) := by simp; omega
          rw [hdec]
          clear lC hdec
          go_wp2_with fail
          refine (susp_ok (fun i => g ≤ i) lb 32 _ _ a (n + 101) _ (by exact HC.out.1) (by omega) (by omega)).mono ?_
          rintro e wD ⟨rfl, lD⟩
          rw [HE.out.2.2]
          have HD := Fact.mk (HC.out.2.trans (lD.mono hlC))
          clear lD
          go_wp2_with fail
          go_ret
          exact ⟨rfl, hfin.out _ HD.out⟩
end Go.Proofs.Ytcdjglkcblphlaa
