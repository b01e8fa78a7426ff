/- journal.Open of a disk that is all noughts, walked. -/
import Derived.Test.YtcdjglkcblphlaaProg
import Derived.Test.YtcdjglkcblphlaaBase
import Derived.Test.YtcdjglkcblphlaaBaseIn
import Derived.Test.YtcdjglkcblphlaaSectors
import Derived.BigRegionIn
set_option linter.unusedVariables false
set_option linter.unusedSimpArgs false
namespace Go.Proofs.Ytcdjglkcblphlaa
open Go.RowKit Go.Shelf
attribute [local go_sem] Oper.semAt_some

theorem isRec_zero (i : Nat) (h : i < 64) : isRec i (zeros 64) = false := by
  unfold isRec
  rw [decide_eq_false_iff_not]
  rintro ⟨_, h2⟩
  have h3 := congrArg (fun l : List Int => l.getD 3 0) h2
  simp only [zeros_getD] at h3
  have hr : recB (zeros 64) = [] := by unfold recB; rw [zeros_getD]; simp
  rw [hr] at h3
  have : (sectorB i []).getD 3 0 = (i : Int) + 1 := by
    have hh : highB ((i : Int) + 1) 4 = [byteAt ((i : Int) + 1) 3, byteAt ((i : Int) + 1) 2, byteAt ((i : Int) + 1) 1, byteAt ((i : Int) + 1) 0] := rfl
    have h0 : byteAt ((i : Int) + 1) 0 = (i : Int) + 1 := by unfold byteAt; simp; omega
    unfold sectorB
    rw [hh, h0]
    simp [splice, zeros]
  rw [this] at h3
  omega

theorem Blk.grownFrom {W W' : World} {b B : Nat} {cs : Array Value} {t : TypeId} {row : Option Nat} (h : Blk W b cs t) (hg : W.grownBy W' row) (hr : ∀ r, row = some r → B ≤ r) (hb : b < B) : Blk W' b cs t :=
  (hg.block b h.lt (fun e => by have := hr b e.symm; omega)).trans h
theorem below_grownFrom {W0 W W' : World} {g B : Nat} {row : Option Nat} (h : Below g W0 W) (hg : W.grownBy W' row) (hr : ∀ r, row = some r → B ≤ r) (hgB : g ≤ B) (hs : g ≤ W.heap.size) : Below g W0 W' :=
  h.grown hg hs (fun k e => by have := hr k e; omega)
theorem keepsFrom_mod {S : Nat → Prop} {W W' : World} {B : Nat} (h : Mod S W W') (hs : ∀ i, S i → i < B) : KeepsFrom B W W' :=
  ⟨h.size, fun k o hB hk _ => (h.block k (lt_of_some hk) (fun hh => by have := hs k hh; omega)).trans hk⟩

/-- How many sectors came. -/
def szOf (pre : List Place) : Nat := match pre.getLast? with | none => 0 | some x => x.1 + 1
theorem szOf_snoc (pre : List Place) (x : Place) : szOf (pre ++ [x]) = x.1 + 1 := by simp [szOf]
theorem szOf_range (xs : List Place) (N : Nat) (h : xs.map (·.1) = List.range N) (hN : 1 ≤ N) : szOf xs = N := by
  unfold szOf
  have : (xs.map (·.1)).getLast? = some (N - 1) := by
    rw [h]
    simp [List.getLast?_range]
    omega
  rw [List.getLast?_map] at this
  cases hx : xs.getLast? with
  | none => simp [hx] at this
  | some x => simp [hx] at this; simp; omega

set_option maxHeartbeats 2000000 in
theorem jopen_zero (d sb mb N ck : Nat) (w : World) (g : Nat) (hg : w.heap.size = g) (hD : DiskAt w d sb mb N (zeros (N * 64)) [] ck) (hN : 1 ≤ N) :
    Calls Try.prog 15 #[.pointer (some ⟨d, 0, none⟩)] w fun e w' => e = .returned (.tuple #[.pointer (some ⟨g, 0, none⟩), .int .i64 0]) ∧
      Blk w' g #[.pointer (some ⟨d, 0, none⟩), .int .i64 0, .int .i64 N, .slice none 0 0] 68 ∧ Below g w w' := by
  have h1 : 1 ≤ 4 := by omega
  refine (callsIn_wide (n := 4)).1 ?_
  refine callsIn_of_wp_marks Try.func15 rfl trivial ?_ rfl
  simp only [Try.ntmps15, List.size_toArray, List.length_cons, List.length_nil, Nat.reduceAdd, Nat.reduceSub, Array.replicate_succ, Array.replicate_zero, List.push_toArray, List.append_toArray, List.nil_append, List.cons_append]
  gi_wp2_with fail
  refine ⟨trivial, ?_⟩
  refine (callsIn_wide.2 (sectors_ok d _ (g + 3) (by simp; omega))).mono ?_
  rintro e w1 ⟨rfl, rfl⟩
  gi_wp2_with fail
  have bJ : Blk (w.alloc (.cells #[.pointer (some ⟨d, 0, none⟩), .int .i64 0, .int .i64 0, .slice none 0 0] 68)) g _ _ := Blk.new' w g _ _ hg.symm
  have bV : Blk ((w.alloc (.cells #[.pointer (some ⟨d, 0, none⟩), .int .i64 0, .int .i64 0, .slice none 0 0] 68)).alloc (.cells #[.pointer (some ⟨g, 0, none⟩)] 28)) (g + 1) _ _ := Blk.new' _ (g + 1) _ _ (by simp; omega)
  have bG : Blk (((w.alloc (.cells #[.pointer (some ⟨d, 0, none⟩), .int .i64 0, .int .i64 0, .slice none 0 0] 68)).alloc (.cells #[.pointer (some ⟨g, 0, none⟩)] 28)).alloc (.cells #[.bool true] 4)) (g + 2) _ _ := Blk.new' _ (g + 2) _ _ (by simp; omega)
  have bX : Blk ((((w.alloc (.cells #[.pointer (some ⟨d, 0, none⟩), .int .i64 0, .int .i64 0, .slice none 0 0] 68)).alloc (.cells #[.pointer (some ⟨g, 0, none⟩)] 28)).alloc (.cells #[.bool true] 4)).alloc (.cells #[.pointer (some ⟨d, 0, none⟩)] 24)) (g + 3) _ _ := Blk.new' _ (g + 3) _ _ (by simp; omega)
  have bJ := ((bJ.alloc (.cells #[.pointer (some ⟨g, 0, none⟩)] 28)).alloc (.cells #[.bool true] 4)).alloc (.cells #[.pointer (some ⟨d, 0, none⟩)] 24)
  have bV := (bV.alloc (.cells #[.bool true] 4)).alloc (.cells #[.pointer (some ⟨d, 0, none⟩)] 24)
  have bG := bG.alloc (.cells #[.pointer (some ⟨d, 0, none⟩)] 24)
  have B0 : Below g w ((((w.alloc (.cells #[.pointer (some ⟨d, 0, none⟩), .int .i64 0, .int .i64 0, .slice none 0 0] 68)).alloc (.cells #[.pointer (some ⟨g, 0, none⟩)] 28)).alloc (.cells #[.bool true] 4)).alloc (.cells #[.pointer (some ⟨d, 0, none⟩)] 24)) :=
    ((((Below.refl _ _).alloc (by omega) _).alloc (by simp; omega) _).alloc (by simp; omega) _).alloc (by simp; omega) _
  have Z0 : ((((w.alloc (.cells #[.pointer (some ⟨d, 0, none⟩), .int .i64 0, .int .i64 0, .slice none 0 0] 68)).alloc (.cells #[.pointer (some ⟨g, 0, none⟩)] 28)).alloc (.cells #[.bool true] 4)).alloc (.cells #[.pointer (some ⟨d, 0, none⟩)] 24)).heap.size = g + 4 := by simp; omega
  generalize (((w.alloc (.cells #[.pointer (some ⟨d, 0, none⟩), .int .i64 0, .int .i64 0, .slice none 0 0] 68)).alloc (.cells #[.pointer (some ⟨g, 0, none⟩)] 28)).alloc (.cells #[.bool true] 4)).alloc (.cells #[.pointer (some ⟨d, 0, none⟩)] 24) = w0 at *
  have D0 : DiskAt w0 d sb mb N (zeros (N * 64)) [] ck := hD.mod (Mod.below B0) (by have := hD.disk.lt; omega) (by have := hD.sure.lt; omega) (by have := hD.soon.lt; omega)
  have hd : d < g := by have := hD.disk.lt; omega
  have hs : sb < g := by have := hD.sure.lt; omega
  have hm : mb < g := by have := hD.soon.lt; omega
  refine wpIn_rangeFunc_ownH (α := Place) (F := Fence.wide) (n := 4) rfl h1 (gf := 26) (lb := #[.pointer (some ⟨g + 3, 0, none⟩)]) rfl trivial (enters_of Try.func26 (by kernel_rfl) rfl)
    (sectors1_zero d sb mb N ck g (g + 3) w0 bX D0 hd hs hm (by omega)) (fun h k => h.trans k) (fun W l o o' hl _ _ _ => mod_putObj W l o' (by omega)) (Below.refl _ _) (fun _ => rfl)
    (fun pre W => Fact (Blk W g #[.pointer (some ⟨d, 0, none⟩), .int .i64 0, .int .i64 (szOf pre : Int), .slice none 0 0] 68 ∧ Blk W (g + 1) #[.pointer (some ⟨g, 0, none⟩)] 28 ∧ Blk W (g + 1 + 1) #[.bool pre.isEmpty] 4 ∧ Below g w W ∧ g + 4 ≤ W.heap.size))
    (fun _ _ _ => False)
    (fun pre A B row h hg' hr => ⟨h.out.1.grownFrom hg' (B := g + 4) (fun r e => by have := (hr r e).1; omega) (by omega), h.out.2.1.grownFrom hg' (B := g + 4) (fun r e => by have := (hr r e).1; omega) (by omega), h.out.2.2.1.grownFrom hg' (B := g + 4) (fun r e => by have := (hr r e).1; omega) (by omega),
      below_grownFrom h.out.2.2.2.1 hg' (B := g + 4) (fun r e => by have := (hr r e).1; omega) (by omega) (by have := h.out.2.2.2.2; omega), Nat.le_trans h.out.2.2.2.2 hg'.size⟩)
    (fun _ _ _ _ _ hs _ _ => hs)
    ⟨bJ, bV, bG, B0, by omega⟩
    (fun x a' W => ∃ Bx, Fact (Blk W Bx (nums .u8 (zeros 64)) 73 ∧ g + 4 ≤ Bx) ∧ a' = { tmps := #[.pointer (some ⟨d, 0, none⟩), undef, .pointer none, .int .i64 0, .pointer (some ⟨g + 1, 0, none⟩), .pointer (some ⟨g + 1 + 1, 0, none⟩), .int .i64 (x.1 : Int), .pointer (some ⟨Bx, 0, none⟩), undef, undef, .pointer (some ⟨d, 0, none⟩), .bool false, .pointer (some ⟨d, 0, none⟩),
      .agg #[.pointer (some ⟨d, 0, none⟩), .int .i64 0, .int .i64 0, .slice none 0 0], .pointer (some ⟨g, 0, none⟩), .pointer (some ⟨d, 0, none⟩), .func (.func 26) #[] #[.pointer (some ⟨g + 3, 0, none⟩)], .int .i64 (x.1 : Int), .agg (nums .u8 (zeros 64)), undef, undef, undef, undef, undef, undef, undef, undef, undef, undef, undef, undef, undef, undef, undef, undef, undef, undef, undef, undef, undef, undef, undef, undef, undef, undef, undef, undef, undef, undef, undef, undef, undef, undef, undef], defers := [] })
    (fun x a' _ A B row h hg' hr => by
      obtain ⟨Bx, h1, h2⟩ := h
      refine ⟨Bx, ⟨(hg'.block Bx h1.out.1.lt (fun e => ?_)).trans h1.out.1, h1.out.2⟩, h2⟩
      obtain ⟨_, o, ho, hc⟩ := hr Bx e.symm
      have hb := h1.out.1
      unfold Blk at hb
      rw [hb] at ho
      cases ho
      cases hc)
    ?assign ?body ?done ?stop
  case assign =>
    intro l pre x W K hI hK
    have hW : g + 4 ≤ W.heap.size := hI.out.2.2.2.2
    have hz := Blk.new W (nums .u8 (zeros 64)) 73
    have HZ := Fact.mk hz
    clear hz
    dsimp only [encZ]
    gi_wp2
    have hm1 : Mod (fun _ => False) W (W.alloc (.cells (nums .u8 (zeros 64)) 73)) := (Mod.refl _ _).alloc _
    refine hK _ _ (keepsFrom_mod hm1 (fun _ h => h.elim)) (hm1.mono (fun _ h => h.elim)) ⟨hI.out.1.alloc _, hI.out.2.1.alloc _, hI.out.2.2.1.alloc _, hI.out.2.2.2.1.alloc (by omega) _, by rw [World.size_alloc]; omega⟩ ⟨W.heap.size, ⟨HZ.out, hW⟩, rfl⟩
  case body =>
    rintro l pre x a' W hl ⟨r, hr⟩ hI ⟨Bx, hB, rfl⟩ hlen
    have c0 := hI.out.1.cell 2
    have f0 := hI.out.1.free 2
    have c1 := hI.out.2.1.cell 0
    have c2 := hI.out.2.2.1.cell 0
    have f2 := hI.out.2.2.1.free 0
    have q1 := HasRow.of_blk hB.out.1 0 64 (by rw [nums_size, zeros_length]; omega)
    have q2 := rowAt_whole hB.out.1 64 (by rw [nums_size, zeros_length])
    have hx := x.2
    obtain ⟨i, hi⟩ : ∃ i, x.1 = i := ⟨_, rfl⟩
    have hg1 : ¬ g = Bx := by have := hB.out.2; omega
    have hg2 : ¬ g + 1 + 1 = Bx := by have := hB.out.2; omega
    gi_wp2_with fail
    have hz4 : (zeros 64).getD 4 0 = 0 := zeros_getD 64 4
    have hr0 : recB (zeros 64) = [] := by unfold recB; rw [zeros_getD]; simp
    refine ⟨trivial, ?_⟩
    refine (CallsIn.inRound l (callsIn_wide.2 (record_ok i (zeros 64) _ _ rfl (by omega) (zeros_length 64) (by intro y hy; rw [List.eq_of_mem_replicate hy]; omega) (by rw [hz4]; omega)))).mono ?_
    rintro e w2 ⟨A, c, rfl, _, l2⟩
    rw [hr0, isRec_zero i (by omega)]
    have hgW : g + 4 ≤ W.heap.size := hI.out.2.2.2.2
    have bJ2 := (hI.out.1.set 2 (.int .i64 ((i : Int) + 1))).below l2 (by rw [World.size_setCell]; omega)
    have bV2 := (hI.out.2.1.setOther (p := ⟨g, 2, none⟩) (fun h => by have : g + 1 = g := h; omega) (.int .i64 ((i : Int) + 1))).below l2 (by rw [World.size_setCell]; omega)
    have bG2 := (hI.out.2.2.1.setOther (p := ⟨g, 2, none⟩) (fun h => by have : g + 1 + 1 = g := h; omega) (.int .i64 ((i : Int) + 1))).below l2 (by rw [World.size_setCell]; omega)
    have m2 : Mod (fun k => k = g ∨ k = g + 1 + 1) W w2 := ((Mod.refl _ _).setCell (by exact .inl (.inl rfl)) _).trans' (Mod.below l2) (fun _ h => h) (fun k hk h => by rw [World.size_setCell] at h; omega)
    have B2 : Below g w w2 := hI.out.2.2.2.1.trans (m2.toBelow (by omega) (by intro k h; omega))
    have c2' := bG2.cell 0
    have f2' := bG2.free 0
    have H2 := Fact.mk (And.intro bJ2 (And.intro bV2 (And.intro bG2 (And.intro m2 (And.intro B2 hi)))))
    clear bJ2 bV2 bG2 m2 B2 l2 c0 c1 c2 f0 f2 q1 q2 hi
    have fin : ∀ (W3 : World), W3 = w2.setCell ⟨g + 1 + 1, 0, none⟩ (.bool false) → KeepsFrom w0.heap.size W W3 ∧ Mod (fun i => g ≤ i ∧ ¬ i = g + 3) W W3 ∧
        Fact (Blk W3 g #[.pointer (some ⟨d, 0, none⟩), .int .i64 0, .int .i64 (szOf (pre ++ [x]) : Int), .slice none 0 0] 68 ∧ Blk W3 (g + 1) #[.pointer (some ⟨g, 0, none⟩)] 28 ∧ Blk W3 (g + 1 + 1) #[.bool (pre ++ [x]).isEmpty] 4 ∧ Below g w W3 ∧ g + 4 ≤ W3.heap.size) := by
      rintro W3 rfl
      have m3 : Mod (fun k => k = g ∨ k = g + 1 + 1) W (w2.setCell ⟨g + 1 + 1, 0, none⟩ (.bool false)) := H2.out.2.2.2.1.setCell (by exact .inl (.inr rfl)) _
      refine ⟨keepsFrom_mod m3 (by intro k h; omega), m3.mono (by intro k h; omega), ⟨?_, ?_, ?_, ?_, ?_⟩⟩
      · have := H2.out.1.setOther (p := ⟨g + 1 + 1, 0, none⟩) (fun h => by have : g = g + 1 + 1 := h; omega) (.bool false)
        rw [szOf_snoc, H2.out.2.2.2.2.2]
        exact this
      · exact H2.out.2.1.setOther (p := ⟨g + 1 + 1, 0, none⟩) (fun h => by have : g + 1 = g + 1 + 1 := h; omega) (.bool false)
      · have := H2.out.2.2.1.set 0 (.bool false)
        rw [show (pre ++ [x]).isEmpty = false by simp]
        exact this
      · exact H2.out.2.2.2.2.1.setCell (by show g ≤ g + 1 + 1; omega) _
      · rw [World.size_setCell]
        have := H2.out.2.2.2.1.size
        omega
    have FIN := Fact.mk fin
    clear fin
    cases hp : pre.isEmpty with
    | true =>
      rw [hp] at c2'
      clear hp
      gi_wp2
      exact FIN.out _ rfl
    | false =>
      rw [hp] at c2'
      clear hp
      gi_wp2
      exact FIN.out _ rfl
  case done =>
    intro D xs W hD hS hI hK
    have HS := Fact.mk (szOf_range xs N hS hN)
    have c0 := hI.out.1.cell 3
    have c1 := hI.out.2.1.cell 0
    have c2 := hI.out.1.cell 1
    have f2 := hI.out.1.free 1
    have hDg : g + 4 ≤ D := by omega
    gi_wp2_with fail
    gi_region
    all_goals
      gi_wp2
      have hK' : ((W.setCell ⟨g, 1, none⟩ (.int .i64 0)).drew).heap[D]? = some (.deferred (some [])) := (Below.heap_setCell W ⟨g, 1, none⟩ (.int .i64 0) D (by show D ≠ g; omega)).trans hK
      refine ⟨by simp, .inl ⟨_, _, rfl, run_takeDeferred hK', ?_⟩⟩
      have b1 := ((hI.out.1.set 1 (.int .i64 0)).drew).mod (mod_putObj (S := (· = D)) (W.setCell ⟨g, 1, none⟩ (.int .i64 0)).drew D (.deferred none) rfl) (by omega)
      rw [HS.out] at b1
      have B1 := hI.out.2.2.2.1.trans (((((Mod.refl (fun i => i = g ∨ i = D) W).setCell (p := ⟨g, 1, none⟩) (by exact .inl (.inl rfl)) (.int .i64 0)).drew).trans (mod_putObj _ D (.deferred none) (.inr rfl))).toBelow (by have := hI.out.2.2.2.2; omega) (by intro i h; omega))
      exact ⟨_, results_tmp2 rfl _ _ _, rfl, b1, B1⟩
  case stop => exact fun _ _ _ _ _ _ h _ => h.elim
end Go.Proofs.Ytcdjglkcblphlaa
