/- Ledger.keep, walked. -/
import Derived.Test.YtcdjglkcblphlaaProg
import Derived.Test.YtcdjglkcblphlaaBase
import Derived.Test.YtcdjglkcblphlaaMaps
import Derived.Test.YtcdjglkcblphlaaOct
import Derived.Test.YtcdjglkcblphlaaLed
import Derived.Test.YtcdjglkcblphlaaTake
set_option linter.unusedVariables false
set_option linter.unusedSimpArgs false
namespace Go.Proofs.Ytcdjglkcblphlaa
open Go.RowKit

theorem owns_pos {w : World} {base n size : Nat} {e : TypeId} {v : Value} {xs : List Value} (h : w.ownsRow base e size v n xs) (hn : ¬ n = 0) :
    ∃ b c, v = .slice (some ⟨b, 0, none⟩) n c ∧ n ≤ c ∧ base ≤ b ∧ (∃ cur, Blk w b cur e) ∧ ∀ (j : Nat) (u : Value), xs[j]? = some u → w.cell? ⟨b, j, none⟩ = some u := by
  rcases h.2 with ⟨_, h0⟩ | ⟨g, cap, cur, rfl, hb, hh, hn, _, _, ht⟩
  · exact absurd h0 hn
  · refine ⟨g, cap, rfl, hn, hb, ⟨cur, hh⟩, ?_⟩
    intro j u hu
    have := h.cells (g := g) rfl j u hu
    rw [addr_add] at this
    simpa using this
theorem JournalAt.mod {w w' : World} {S : Nat → Prop} {j d sb mb N many : Nat} {SU : List Int} {ck : Nat} {lv : Value} {xs : List Value} (h : JournalAt w j d sb mb N many SU ck lv xs) (hm : Mod S w w')
    (h1 : ¬ S j) (h2 : ¬ S d) (h3 : ¬ S sb) (h4 : ¬ S mb) (h5 : ∀ k, lv.ownBlock = some k → ¬ S k) : JournalAt w' j d sb mb N many SU ck lv xs :=
  ⟨h.jrn.mod hm h1, h.dsk.mod hm h2 h3 h4, own_mod h.own hm h5⟩
theorem append_ten (j d sb mb N many : Nat) (SU : List Int) (ck : Nat) (lv : Value) (xs : List Value) (p c : Nat) (b : List Int) (hB : b.length = 10) (w : World)
    (hJ : JournalAt w j d sb mb N many SU ck lv xs) (hm : many < N) (hx : ∀ i : Nat, i < 10 → w.cell? ⟨p, i, none⟩ = some (.int .u8 (b.getD i 0)))
    (hAd : ¬ p = d ∧ ¬ p = sb ∧ ¬ p = mb) :
    Calls Try.prog 23 #[.pointer (some ⟨j, 0, none⟩), .slice (some ⟨p, 0, none⟩) 10 c] w fun e w' => e = .returned (.int .i64 0) ∧
      ∃ lv' xs', JournalAt w' j d sb mb N (many + 1) (putSec SU many (sectorB many b)) (ck + 1) lv' xs' ∧ (lv'.ownBlock = lv.ownBlock ∨ ∃ k, lv'.ownBlock = some k ∧ w.heap.size ≤ k) ∧
        Mod (fun i => i = j ∨ i = d ∨ i = sb ∨ i = mb ∨ lv.ownBlock = some i) w w' := by
  have := append_ok j d sb mb N many SU ck lv xs (some ⟨p, 0, none⟩) c b w hJ hm (by omega) (fun i hi => ⟨_, rfl, by rw [addr_add]; simpa using hx i (by omega)⟩) (by rintro a h _; cases h; exact hAd)
  rw [hB] at this
  exact this

set_option maxHeartbeats 4000000 in
theorem keep_ok (lb j lm d sb mb N many : Nat) (SU : List Int) (ck : Nat) (lv : Value) (xs : List Value) (E E' : List Ent) (mck mck' : Nat) (kind acc id now : Int) (w : World)
    (hL : Blk w lb #[.pointer (some ⟨j, 0, none⟩), .map (some lm)] 59) (hJ : JournalAt w j d sb mb N many SU ck lv xs) (hM : MapBlk w lm (toEs E) mck) (hne : ¬ lm = mb) (hmany : many < N)
    (ha0 : 0 ≤ acc) (ha1 : acc < 8) (hi0 : 0 ≤ id) (hi1 : id ≤ 1000000) (hn0 : 0 ≤ now) (hn1 : now ≤ 1000000)
    (hT : ∀ (W : World) (b c : Nat), 10 ≤ c → Blk W lb #[.pointer (some ⟨j, 0, none⟩), .map (some lm)] 59 → MapBlk W lm (toEs E) mck →
      (∀ i : Nat, i < 10 → W.cell? ⟨b, i, none⟩ = some (.int .u8 ((recOf kind acc id now).getD i 0))) →
      Calls Try.prog 19 #[.pointer (some ⟨lb, 0, none⟩), .slice (some ⟨b, 0, none⟩) 10 c] W fun e w' => e = .returned (.tuple #[]) ∧ MapBlk w' lm (toEs E') mck' ∧ Mod (· = lm) W w') :
    Calls Try.prog 17 #[.pointer (some ⟨lb, 0, none⟩), .int .u8 kind, .int .i64 acc, .int .i64 id, .int .i64 now] w fun e w' => e = .returned (.int .i64 0) ∧
      ∃ SU' ck' lv' xs', JournalAt w' j d sb mb N (many + 1) SU' ck' lv' xs' ∧ Blk w' lb #[.pointer (some ⟨j, 0, none⟩), .map (some lm)] 59 ∧ MapBlk w' lm (toEs E') mck' ∧
        (lv'.ownBlock = lv.ownBlock ∨ ∃ k, lv'.ownBlock = some k ∧ w.heap.size ≤ k) ∧
        Mod (fun i => i = lm ∨ i = j ∨ i = d ∨ i = sb ∨ i = mb ∨ lv.ownBlock = some i) w w' := by
  obtain ⟨g, hg⟩ : ∃ g, w.heap.size = g := ⟨_, rfl⟩
  have wu : IntKind.u8.wrap acc = acc := IntWalk.u8_in _ (by omega)
  have wi : IntKind.u64.wrap id = id := by simp [IntKind.wrap, IntKind.bits, IntKind.signed]; omega
  have wn : IntKind.u64.wrap now = now := by simp [IntKind.wrap, IntKind.bits, IntKind.signed]; omega
  have hO0 : (w.alloc (.cells #[.int .u8 kind, .int .u8 acc] 5)).ownsRow g 5 1 (.slice (some ⟨g, 0, none⟩) 2 2) 2 (#[.int .u8 kind, .int .u8 acc] : Array Value).toList :=
    owns_lit (n := 2) (size := 1) (base := g) (Blk.new' w g #[.int .u8 kind, .int .u8 acc] 5 hg.symm) (by omega) rfl (by simp [maxLen])
  have HF := Fact.mk (And.intro hL (And.intro hJ (And.intro hM (And.intro hO0 hT))))
  clear hL hJ hM hO0 hT
  go_enter Try.func17, Try.ntmps17
  go_wp2_with (first | (go_at_call 22; refine (high_ok id 4 _ (g + 1) (by simp; omega) (by decide) hi0 (by omega)).mono ?_; rintro e w1 ⟨rfl, b1, l1, z1⟩; have O1 := own_mod HF.out.2.2.2.1 (Mod.below l1) (by intro k hk; simp [Value.ownBlock] at hk; omega); have H1 := Fact.mk (And.intro b1 (And.intro O1 (And.intro l1 z1))); clear b1 O1 l1 z1) | (at_builtin; refine (wpl_append rfl (.tmp 16) (.tmp 19) 64 rfl g 5 1 1 Try.underlying64 elem_u8 (by decide) (by decide) (.slice (some ⟨g, 0, none⟩) 2 2) 2 _ (by exact H1.out.2.1) (some ⟨g + 1 + 1, 0, none⟩) 4 4 ((highB id 4).map (Value.int .u8)) rfl rfl (by simp [highB_length]) (Reads.toV (Reads.of_blk (by exact H1.out.1))) (nums_oneCell _ _) (by omega) (by have := H1.out.2.2.2; simp; omega) ?_); intro v1 w2 o1 g1 a1; obtain ⟨A1, k1, rfl, hk1, _, _⟩ := owns_reads o1.out))
  have hs1 : w1.heap.size = g + 1 + 2 := H1.out.2.2.2
  have B2 : Below g w w2 := (((Below.refl g w).alloc (by omega) _).trans (H1.out.2.2.1.mono (by omega))).trans ((Mod.of_grown g1.out).toBelow (by omega) (by intro i h; simp [Value.ownBlock] at h; omega))
  have hO2 := o1.out
  have hg2 : g ≤ w2.heap.size := by have := B2.size; omega
  have hA1 : ∀ k, (Value.slice A1 6 k1).ownBlock = some k → g ≤ k ∧ k < w2.heap.size := by
    intro k hk
    obtain ⟨A', c', he, _, _, h⟩ := owns_reads hO2
    cases A1 with
    | none => simp [Value.ownBlock] at hk
    | some a =>
      simp only [Value.slice.injEq] at he
      have := h a he.1.symm
      simp [Value.ownBlock] at hk
      subst hk
      exact this
  have H2 := Fact.mk (And.intro B2 (And.intro hO2 hA1))
  clear B2 hO2 hA1 o1 g1 a1 H1
  refine (high_ok now 4 _ w2.heap.size rfl (by decide) hn0 (by omega)).mono ?_
  rintro e w3 ⟨rfl, b3, l3, z3⟩
  have O3 := own_mod H2.out.2.1 (Mod.below l3) (by intro k hk; have := H2.out.2.2 k hk; omega)
  have H3 := Fact.mk (And.intro b3 (And.intro O3 (And.intro l3 z3)))
  clear b3 O3 l3 z3
  have hg3 : w2.heap.size + 2 = w3.heap.size := H3.out.2.2.2.symm
  go_wp2_with (first | (at_builtin; refine (wpl_append rfl (.tmp 21) (.tmp 24) 64 rfl g 5 1 1 Try.underlying64 elem_u8 (by decide) (by decide) (.slice A1 6 k1) 6 _ (by exact H3.out.2.1) (some ⟨w2.heap.size + 1, 0, none⟩) 4 4 ((highB now 4).map (Value.int .u8)) rfl rfl (by simp [highB_length]) (Reads.toV (Reads.of_blk (by exact H3.out.1))) (nums_oneCell _ _) (by omega) (by omega) ?_); intro v2 w4 o2 g2 a2; have B4 : Below g w w4 := (H2.out.1.trans (H3.out.2.2.1.mono (by omega))).trans ((Mod.of_grown g2.out).toBelow (by omega) (by intro i h; exact (H2.out.2.2 i (by exact h)).1)); have L4 := HF.out.1.below B4 (by have := HF.out.1.lt; omega); have cl : w4.cell? ⟨lb, 0, none⟩ = some (.pointer (some ⟨j, 0, none⟩)) := L4.cell 0; obtain ⟨b, c, rfl, hc, hgb, hbk, hcells⟩ := owns_pos o2.out (by decide); have H4 := Fact.mk (And.intro B4 (And.intro L4 (And.intro hbk hcells))); clear B4 L4 hbk hcells o2 g2 a2) | (go_at_call 23; fail))
  have hsz4 : g ≤ w4.heap.size := by have := H4.out.1.size; omega
  have J4 : JournalAt w4 j d sb mb N many SU ck lv xs := HF.out.2.1.mod (Mod.below H4.out.1) (by have := HF.out.2.1.jrn.lt; omega) (by have := HF.out.2.1.dsk.disk.lt; omega) (by have := HF.out.2.1.dsk.sure.lt; omega) (by have := HF.out.2.1.dsk.soon.lt; omega)
    (by intro k hk; obtain ⟨cs, hcs⟩ := JournalAt.own_blk HF.out.2.1.own k hk; have := hcs.lt; omega)
  have R4 : ∀ i : Nat, i < 10 → w4.cell? ⟨b, i, none⟩ = some (.int .u8 ((recOf kind acc id now).getD i 0)) := by
    intro i hi
    refine H4.out.2.2.2 i _ ?_
    have hl := recOf_length kind acc id now
    have e : (#[Value.int .u8 kind, Value.int .u8 acc] : Array Value).toList ++ (highB id 4).map (Value.int .u8) ++ (highB now 4).map (Value.int .u8) = (recOf kind acc id now).map (Value.int .u8) := by simp [recOf]
    rw [e]
    simp [hl, hi]
  have hbd : ¬ b = d ∧ ¬ b = sb ∧ ¬ b = mb := by
    have h1 := HF.out.2.1.dsk.disk.lt
    have h2 := HF.out.2.1.dsk.sure.lt
    have h3 := HF.out.2.1.dsk.soon.lt
    omega
  have M4 := HF.out.2.2.1.below H4.out.1 (by have := HF.out.2.2.1.lt; omega)
  have H5 := Fact.mk (And.intro J4 (And.intro R4 (And.intro hbd M4)))
  clear J4 R4 hbd M4
  refine (append_ten j d sb mb N many SU ck lv xs b c (recOf kind acc id now) (recOf_length _ _ _ _) w4 (by exact H5.out.1) hmany (by exact H5.out.2.1) (by exact H5.out.2.2.1)).mono ?_
  rintro e w5 ⟨rfl, lv', xs', J5, hlv, m5⟩
  have hown : ∀ k, lv.ownBlock = some k → ∃ cs, Blk w4 k cs 64 := fun k hk => JournalAt.own_blk H5.out.1.own k hk
  have L5 := H4.out.2.1.mod m5 (by
    rintro (h | h | h | h | h)
    · exact JournalAt.blk_ne H4.out.2.1 H5.out.1.jrn (by decide) h
    · exact JournalAt.blk_ne H4.out.2.1 H5.out.1.dsk.disk (by decide) h
    · exact JournalAt.blk_ne H4.out.2.1 H5.out.1.dsk.sure (by decide) h
    · exact JournalAt.blk_ne_map H4.out.2.1 H5.out.1.dsk.soon h
    · obtain ⟨cs, hcs⟩ := hown _ h
      exact JournalAt.blk_ne H4.out.2.1 hcs (by decide) rfl)
  have M5 := H5.out.2.2.2.mod m5 (by
    rintro (h | h | h | h | h)
    · exact JournalAt.blk_ne_map H5.out.1.jrn H5.out.2.2.2 h.symm
    · exact JournalAt.blk_ne_map H5.out.1.dsk.disk H5.out.2.2.2 h.symm
    · exact JournalAt.blk_ne_map H5.out.1.dsk.sure H5.out.2.2.2 h.symm
    · exact hne h
    · obtain ⟨cs, hcs⟩ := hown _ h
      exact JournalAt.blk_ne_map hcs H5.out.2.2.2 rfl)
  have R5 : ∀ i : Nat, i < 10 → w5.cell? ⟨b, i, none⟩ = some (.int .u8 ((recOf kind acc id now).getD i 0)) := by
    intro i hi
    obtain ⟨cur, hcur⟩ := H4.out.2.2.1
    have h5 := hcur.mod m5 (by
      rintro (h | h | h | h | h)
      · exact JournalAt.blk_ne hcur H5.out.1.jrn (by decide) h
      · exact JournalAt.blk_ne hcur H5.out.1.dsk.disk (by decide) h
      · exact JournalAt.blk_ne hcur H5.out.1.dsk.sure (by decide) h
      · exact JournalAt.blk_ne_map hcur H5.out.1.dsk.soon h
      · obtain ⟨cs, hcs⟩ := JournalAt.own_blk HF.out.2.1.own _ h
        have := hcs.lt
        omega)
    rw [h5.cell, ← hcur.cell]
    exact H5.out.2.1 i hi
  have H6 := Fact.mk (And.intro L5 (And.intro M5 (And.intro R5 (And.intro J5 (And.intro hlv m5)))))
  clear L5 M5 R5 J5 hlv m5 hown cl
  go_wp2_with (go_at_call 19; refine (HF.out.2.2.2.2 _ b c hc (by exact H6.out.1) (by exact H6.out.2.1) (by exact H6.out.2.2.1)).mono ?_; rintro e w6 ⟨rfl, M6, m6⟩)
  go_ret
  have J6 := H6.out.2.2.2.1.mod m6 (by exact fun h => JournalAt.blk_ne_map H6.out.2.2.2.1.jrn H6.out.2.1 h) (by exact fun h => JournalAt.blk_ne_map H6.out.2.2.2.1.dsk.disk H6.out.2.1 h) (by exact fun h => JournalAt.blk_ne_map H6.out.2.2.2.1.dsk.sure H6.out.2.1 h) (by exact fun h => hne h.symm)
    (by intro k hk h; obtain ⟨cs, hcs⟩ := JournalAt.own_blk H6.out.2.2.2.1.own k hk; exact JournalAt.blk_ne_map hcs H6.out.2.1 h)
  have L6 := H6.out.1.mod m6 (by exact fun h => JournalAt.blk_ne_map H6.out.1 H6.out.2.1 h)
  have hs4 := H4.out.1.size
  refine ⟨rfl, _, _, _, _, J6, L6, M6, ?_, ?_⟩
  · rcases H6.out.2.2.2.2.1 with h | ⟨k, h, hk⟩
    · exact .inl h
    · exact .inr ⟨k, h, by omega⟩
  · refine ((Mod.mono (Mod.trans' (Mod.below H4.out.1) H6.out.2.2.2.2.2 (U := fun i => g ≤ i ∨ (i = j ∨ i = d ∨ i = sb ∨ i = mb ∨ lv.ownBlock = some i)) (fun i h => .inl h) (fun i _ h => .inr h)) (fun i h => h)).trans' m6 (U := fun i => g ≤ i ∨ i = lm ∨ (i = j ∨ i = d ∨ i = sb ∨ i = mb ∨ lv.ownBlock = some i)) (fun i h => by rcases h with h | h; exact .inl h; exact .inr (.inr h)) (fun i _ h => .inr (.inl h))) |> fun h => ⟨h.os, h.tape, h.output, h.size, fun i hi hs => h.block i hi (fun hh => ?_)⟩
    rcases hh with hh | hh
    · omega
    · exact hs hh
end Go.Proofs.Ytcdjglkcblphlaa
