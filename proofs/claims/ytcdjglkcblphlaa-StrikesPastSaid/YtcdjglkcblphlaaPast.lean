/- StrikesPast, walked. -/
import Derived.Test.YtcdjglkcblphlaaProg
import Derived.Test.YtcdjglkcblphlaaBase
import Derived.Test.YtcdjglkcblphlaaLed
import Derived.Test.YtcdjglkcblphlaaOps
import Derived.Test.YtcdjglkcblphlaaCount
import Derived.Test.YtcdjglkcblphlaaLaw
import Derived.Test.YtcdjglkcblphlaaThree
set_option linter.unusedVariables false
set_option linter.unusedSimpArgs false
namespace Go.Proofs.Ytcdjglkcblphlaa
open Go.RowKit

/-- A slice of truth values reads so. -/
def ReadsB (w : World) (A : Option Addr) (xs : List Bool) : Prop := ∀ i, i < xs.length → ∃ a, A = some a ∧ w.cell? (a.add i) = some (.bool (xs.getD i false))
/-- The strikes behind so many rounds. -/
def pst (xs : List Int) (bs : List Bool) : Nat → List St
  | 0 => []
  | i + 1 => pst xs bs i ++ [⟨i, 3, xs.getD i 0, bs.getD i false⟩]
theorem pst_key (xs : List Int) (bs : List Bool) : ∀ (i : Nat) (s : St), s ∈ pst xs bs i → 0 ≤ s.key ∧ s.key < i ∧ s.acc = 3
  | 0, s, h => by simp [pst] at h
  | i + 1, s, h => by
    simp only [pst, List.mem_append, List.mem_singleton] at h
    rcases h with h | rfl
    · obtain ⟨h1, h2, h3⟩ := pst_key xs bs i s h
      exact ⟨h1, by omega, h3⟩
    · exact ⟨by simp only; omega, by simp only; omega, rfl⟩
theorem pst_length (xs : List Int) (bs : List Bool) : ∀ i, (pst xs bs i).length = i
  | 0 => rfl
  | i + 1 => by simp [pst, pst_length xs bs i]
theorem pst_clr (xs : List Int) (bs : List Bool) (i : Nat) (h : bs.getD i false = true) : clrS (pst xs bs i ++ [⟨i, 3, xs.getD i 0, false⟩]) i = pst xs bs (i + 1) := by
  unfold clrS
  simp only [pst, List.map_append, List.map_cons, List.map_nil, if_true, h]
  congr 1
  conv => rhs; rw [← List.map_id (pst xs bs i)]
  apply List.map_congr_left
  intro s hs
  rw [if_neg (by have := pst_key xs bs i s hs; omega)]; rfl
theorem pst_cnt (xs : List Int) (bs : List Bool) (i : Nat) (now : Int) : cntS (pst xs bs (i + 1)) 3 now = cntS (pst xs bs i) 3 now + (if bs.getD i false = false ∧ xs.getD i 0 ≤ now ∧ now ≤ xs.getD i 0 + 100 then 1 else 0) := by
  unfold cntS
  simp only [pst, List.countP_append, List.countP_singleton]
  congr 1
  have := cnts_iff 3 now ⟨i, 3, xs.getD i 0, bs.getD i false⟩
  by_cases h : bs.getD i false = false ∧ xs.getD i 0 ≤ now ∧ now ≤ xs.getD i 0 + 100
  · rw [if_pos h, if_pos (this.2 ⟨rfl, by simpa using h.1, h.2.1, by simp only; omega⟩)]
  · rw [if_neg h, if_neg (fun hc => h (by obtain ⟨h1, h2, h3, h4⟩ := this.1 hc; exact ⟨by simpa using h2, h3, by simp only at h4; omega⟩))]
theorem pst_other (xs : List Int) (bs : List Bool) (i : Nat) (now : Int) : cntS (pst xs bs i) 4 now = 0 :=
  cnt_zero fun s hs ⟨h, _⟩ => by have := (pst_key xs bs i s hs).2.2; omega

set_option maxRecDepth 10000 in
set_option maxHeartbeats 4000000 in
theorem past_ok (A B : Option Addr) (xs : List Int) (bs : List Bool) (c c' : Nat) (n : Int) (w : World) (hx : Reads w .i64 A xs) (hb : ReadsB w B bs) :
    Calls Try.prog 4 #[.slice A xs.length c, .slice B bs.length c', .int .i64 n] w fun e w' => e = .returned (.bool true) ∧ Below w.heap.size w w' := by
  obtain ⟨g, hg⟩ : ∃ g, w.heap.size = g := ⟨_, rfl⟩
  have HX := Fact.mk (And.intro hx hb)
  clear hx hb
  go_enter Try.func4, Try.ntmps4
  go_wp2_with (first | (go_at_call 6; refine (awake_ok _).mono ?_; rintro e w1 ⟨rfl, l1⟩; have hs1 : w.heap.size ≤ w1.heap.size := l1.size; have H1 := Fact.mk l1; clear l1) | (go_at_call 7; refine (disk_new 64 _ _ rfl (by omega) (by omega)).mono ?_; rintro e w2 ⟨rfl, d2, l2⟩; have H2 := Fact.mk (And.intro d2 l2); clear d2 l2) | (go_at_call 8; refine (begun_ok _ _ _ 64 0 _ _ rfl (by exact H2.out.1) (by omega)).mono ?_; rintro e w3 ⟨lb, rfl, L3, l3⟩; have H3 := Fact.mk (And.intro L3 l3); clear L3 l3))
  all_goals
    have B3 : Below g w w3 := by
      have h1 := H1.out; have h2 := H2.out.2; have h3 := H3.out.2
      have z1 := h1.size; have z2 := h2.size
      rw [hg] at h1 z1
      exact (h1.trans (h2.mono z1)).trans (h3.mono (by omega))
    first
    | (go_ret; first | exact ⟨rfl, B3⟩ | exact ⟨rfl, by rw [hg]; exact B3⟩)
    | skip
  have hl : g ≤ w3.heap.size := by have := B3.size; omega
  have L3 : Led w3 (fun i => g ≤ i) lb 64 0 [] := H3.out.1.mono (fun i _ h => by have z1 := H1.out.size; have z2 := H2.out.2.size; omega)
  have H4 := Fact.mk (And.intro L3 B3)
  clear L3 B3 H1 H2 H3
  rename_i h4 K0 a0
  obtain ⟨⟨⟨hl25, hbl⟩, rn0⟩, rn1⟩ := h4
  have HBL : Fact (xs.length ≤ bs.length) := ⟨by omega⟩
  clear hbl
  have hfin : Fact (∀ W : World, Below g w W → Below w.heap.size w W) := ⟨fun W h => by rw [hg]; exact h⟩
  clear hs1
  go_loopw [12, 13] (fun v12 v wr => ∃ i : Nat, i ≤ xs.length ∧ v = .int .i64 i ∧ v12 = .int .i64 (cntS (pst xs bs i) 3 n) ∧ Fact (∃ many, many ≤ 2 * i ∧ Led wr (fun i => g ≤ i) lb 64 many (pst xs bs i) ∧ Below g w wr ∧ g ≤ wr.heap.size)) (fun _ v _ => xs.length - (intOf v).toNat)
  case atStart => exact ⟨0, by omega, rfl, rfl, ⟨0, by omega, H4.out.1, H4.out.2, hl⟩⟩
  case round =>
    clear H4
    obtain ⟨i, hi, rfl, rfl, ⟨many, hm, HI⟩⟩ := hrel
    have HI := Fact.mk HI
    have hcl := cntS_le (pst xs bs i) 3 n
    rw [pst_length] at hcl
    by_cases hlt : i < xs.length
    · have hbl := HBL.out
      have hlt' : (i : Int) < xs.length := by omega
      have hltb' : (i : Int) < bs.length := by omega
      obtain ⟨a, rfl, hca⟩ := HX.out.1 i hlt
      obtain ⟨b, rfl, hcb⟩ := HX.out.2 i (by omega)
      clear hbl
      have hag : (a.add i).block < g := by rw [← hg]; exact World.block_lt_of_cell? w _ hca
      have hbg : (b.add i).block < g := by rw [← hg]; exact World.block_lt_of_cell? w _ hcb
      obtain ⟨L, B0, hgr⟩ := HI.out
      have ha0 := hca
      have hb0 := hcb
      rw [← B0.cell hag] at hca
      rw [← B0.cell hbg] at hcb
      have hn1 : findS (pst xs bs i) i = none := findS_none fun s hs => by have := pst_key xs bs i s hs; omega
      have hmem : findS (pst xs bs i ++ [⟨i, 3, xs.getD i 0, false⟩]) i = some ⟨i, 3, xs.getD i 0, false⟩ := by
        unfold findS at *; rw [List.find?_append, hn1]; simp
      have hmem2 : findS (pst xs bs (i + 1)) i = some ⟨i, 3, xs.getD i 0, bs.getD i false⟩ := by
        unfold findS at *; simp only [pst]; rw [List.find?_append, hn1]; simp
      have hclr := pst_clr xs bs i
      have hcnt := pst_cnt xs bs i n
      have hps : pst xs bs (i + 1) = pst xs bs i ++ [⟨i, 3, xs.getD i 0, bs.getD i false⟩] := rfl
      have HN := Fact.mk (And.intro hn1 (And.intro hmem (And.intro hmem2 (And.intro hclr (And.intro hcnt hps)))))
      have HI := Fact.mk (And.intro L (And.intro B0 hgr))
      have HC := Fact.mk (And.intro ha0 hb0)
      clear hn1 hmem hmem2 hclr hcnt hps L B0 ha0 hb0
      generalize xs.getD i 0 = x at *
      generalize bs.getD i false = y at *
      by_cases hx0 : 0 ≤ x ∧ x ≤ 100000
      · obtain ⟨hx1, hx2⟩ := hx0
        go_wp2_with fail
        refine (add_ok (fun i => g ≤ i) lb 64 many (pst xs bs i) 3 i x wr (by exact HI.out.1) (fun i h => Nat.le_trans HI.out.2.2 h) (by omega) (by exact HN.out.1) (by omega) (by omega) (by omega) (by omega) hx1 (by omega)).mono ?_
        rintro e wA ⟨rfl, LA, mA⟩
        have HA := Fact.mk (And.intro LA (HI.out.2.1.trans (mA.toBelow HI.out.2.2 (fun _ h => h))))
        have hlA : g ≤ wA.heap.size := Nat.le_trans HI.out.2.2 mA.size
        have hcaA : wA.cell? (a.add i) = some (.int .i64 x) := (HA.out.2.cell hag).trans HC.out.1
        have hcbA : wA.cell? (b.add i) = some (.bool y) := (HA.out.2.cell hbg).trans HC.out.2
        clear LA mA hca hcb
        cases y with
        | true =>
          go_wp2_with fail
          refine (clear_ok (fun i => g ≤ i) lb 64 (many + 1) _ i n _ wA (by exact HA.out.1) (fun i h => Nat.le_trans hlA h) (by omega) (by exact HN.out.2.1) rfl (by omega) (by omega) rn0 (by omega)).mono ?_
          rintro e wB ⟨rfl, LB, mB⟩
          rw [HN.out.2.2.2.1 (by trivial)] at LB
          have HB := Fact.mk (And.intro LB (HA.out.2.trans (mB.toBelow hlA (fun _ h => h))))
          have hlB : g ≤ wB.heap.size := Nat.le_trans hlA mB.size
          clear LB mB hcaA hcbA
          go_wp2_with fail
          refine (clear_old (fun i => g ≤ i) lb 64 (many + 1 + 1) _ i n _ wB (by exact HB.out.1) (by exact HN.out.2.2.1) rfl (by omega) (by omega) rn0 (by omega)).mono ?_
          rintro e wC ⟨rfl, lC⟩
          have HD := Fact.mk (And.intro (HB.out.1.grow lC) (And.intro (HB.out.2.trans (lC.mono hlB)) (Nat.le_trans hlB lC.size)))
          have hq : cntS (pst xs bs (i + 1)) 3 n = cntS (pst xs bs i) 3 n := by rw [HN.out.2.2.2.2.1]; simp
          have HQ := Fact.mk hq
          clear lC hq
          go_wp2_with fail
          go_roundw
          case rel => exact ⟨i + 1, by omega, by go_num, by rw [HQ.out], ⟨many + 1 + 1, by omega, HD.out⟩⟩
          case measure => simp [intOf]; omega
        | false =>
          have LD : Led wA (fun i => g ≤ i) lb 64 (many + 1) (pst xs bs (i + 1)) := by rw [HN.out.2.2.2.2.2]; exact HA.out.1
          have HD := Fact.mk (And.intro LD (And.intro HA.out.2 hlA))
          clear LD
          by_cases hc1 : x ≤ n
          · by_cases hc2 : n ≤ x + 100
            · have hq : cntS (pst xs bs (i + 1)) 3 n = cntS (pst xs bs i) 3 n + 1 := by rw [HN.out.2.2.2.2.1, if_pos ⟨rfl, hc1, hc2⟩]
              have HQ := Fact.mk hq
              clear hq
              go_wp2_with fail
              go_roundw
              case rel => exact ⟨i + 1, by omega, by go_num, by rw [HQ.out]; simp, ⟨many + 1, by omega, HD.out⟩⟩
              case measure => simp [intOf]; omega
            · have hq : cntS (pst xs bs (i + 1)) 3 n = cntS (pst xs bs i) 3 n := by rw [HN.out.2.2.2.2.1, if_neg (fun h => hc2 h.2.2)]; rfl
              have HQ := Fact.mk hq
              clear hq
              go_wp2_with fail
              go_roundw
              case rel => exact ⟨i + 1, by omega, by go_num, by rw [HQ.out], ⟨many + 1, by omega, HD.out⟩⟩
              case measure => simp [intOf]; omega
          · have hq : cntS (pst xs bs (i + 1)) 3 n = cntS (pst xs bs i) 3 n := by rw [HN.out.2.2.2.2.1, if_neg (fun h => hc1 h.2.1)]; rfl
            have HQ := Fact.mk hq
            clear hq
            go_wp2_with fail
            go_roundw
            case rel => exact ⟨i + 1, by omega, by go_num, by rw [HQ.out], ⟨many + 1, by omega, HD.out⟩⟩
            case measure => simp [intOf]; omega
      · by_cases hx1 : x < 0
        · go_wp2_with fail
          go_ret
          first | exact ⟨rfl, hfin.out _ HI.out.2.1⟩ | exact ⟨rfl, HI.out.2.1⟩
        · have hx2 : 100000 < x := by omega
          go_wp2_with fail
          go_ret
          first | exact ⟨rfl, hfin.out _ HI.out.2.1⟩ | exact ⟨rfl, HI.out.2.1⟩
    · obtain rfl : i = xs.length := by omega
      have e2 := pst_other xs bs xs.length n
      have hn9 : findS (pst xs bs xs.length) 900 = none := findS_none fun s hs => by have := pst_key xs bs _ s hs; omega
      have HN := Fact.mk (And.intro e2 hn9)
      obtain ⟨L, B0, hgr⟩ := HI.out
      have HI := Fact.mk (And.intro L (And.intro B0 hgr))
      clear e2 hn9 L B0 HX
      generalize hq : cntS (pst xs bs xs.length) 3 n = q at *
      have HQ := Fact.mk hq
      clear hq
      go_wp2_with fail
      refine (count_ok (fun i => g ≤ i) lb 64 _ _ 3 n _ (by exact HI.out.1) (by omega) (by omega)).mono ?_
      rintro e wA ⟨rfl, lA⟩
      rw [HQ.out]
      have HA := Fact.mk (And.intro (HI.out.1.grow lA) (HI.out.2.1.trans (lA.mono HI.out.2.2)))
      have hlA : g ≤ wA.heap.size := Nat.le_trans HI.out.2.2 lA.size
      clear lA
      go_wp2_with fail
      refine (susp_ok (fun i => g ≤ i) lb 64 _ _ 3 n _ (by exact HA.out.1) (by omega) (by omega)).mono ?_
      rintro e wB ⟨rfl, lB⟩
      rw [HQ.out]
      have HB := Fact.mk (And.intro (HA.out.1.grow lB) (HA.out.2.trans (lB.mono hlA)))
      have hlB : g ≤ wB.heap.size := Nat.le_trans hlA lB.size
      have hdec : decide (3 ≤ q) = decide ((3 : Int) ≤ q) := by simp; omega
      rw [hdec]
      clear lB hdec
      go_wp2_with fail
      refine (count_ok (fun i => g ≤ i) lb 64 _ _ 4 n _ (by exact HB.out.1) (by omega) (by omega)).mono ?_
      rintro e wC ⟨rfl, lC⟩
      rw [HN.out.1]
      have HC := Fact.mk (And.intro (HB.out.1.grow lC) (HB.out.2.trans (lC.mono hlB)))
      have hlC : g ≤ wC.heap.size := Nat.le_trans hlB lC.size
      clear lC
      go_wp2_with fail
      refine (clear_none (fun i => g ≤ i) lb 64 _ _ 900 n _ (by exact HC.out.1) (by exact HN.out.2) (by omega) (by omega) rn0 (by omega)).mono ?_
      rintro e wD ⟨rfl, lD⟩
      have HD := Fact.mk (HC.out.2.trans (lD.mono hlC))
      clear lD
      go_wp2_with fail
      go_ret
      exact ⟨rfl, hfin.out _ HD.out⟩
end Go.Proofs.Ytcdjglkcblphlaa
