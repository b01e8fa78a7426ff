/- StrikesApart, walked. -/
import Derived.Test.YtcdjglkcblphlaaProg
import Derived.Test.YtcdjglkcblphlaaBase
import Derived.Test.YtcdjglkcblphlaaMaps
import Derived.Test.YtcdjglkcblphlaaLed
import Derived.Test.YtcdjglkcblphlaaOps
import Derived.Test.YtcdjglkcblphlaaCount
import Derived.Test.YtcdjglkcblphlaaLaw
import Derived.Test.YtcdjglkcblphlaaThree
import Derived.Deep.RegionHeld3
set_option linter.unusedVariables false
set_option linter.unusedSimpArgs false
namespace Go.Proofs.Ytcdjglkcblphlaa
open Go.RowKit

theorem and3 (i : Nat) (h : i < 30) : bits .and .i64 (i : Int) 3 = ((i % 4 : Nat) : Int) := by
  have : ∀ i : Fin 30, bits .and .i64 ((i.1 : Nat) : Int) 3 = ((i.1 % 4 : Nat) : Int) := by decide +kernel
  exact this ⟨i, h⟩
/-- The strikes behind so many rounds. -/
def apt (xs ts : List Int) : Nat → List St
  | 0 => []
  | i + 1 => if (findS (apt xs ts i) (xs.getD i 0)).isSome then apt xs ts i else apt xs ts i ++ [⟨xs.getD i 0, ((i % 4 : Nat) : Int), ts.getD i 0, false⟩]
theorem apt_length (xs ts : List Int) : ∀ i, (apt xs ts i).length ≤ i
  | 0 => Nat.le_refl _
  | i + 1 => by
    have := apt_length xs ts i
    simp only [apt]
    split
    · omega
    · simp; omega
theorem apt_has (xs ts : List Int) : ∀ i k, k < i → ∃ s, findS (apt xs ts i) (xs.getD k 0) = some s
  | 0, k, h => by omega
  | i + 1, k, h => by
    simp only [apt]
    rcases Nat.lt_or_ge k i with hk | hk
    · obtain ⟨s, hs⟩ := apt_has xs ts i k hk
      split
      · exact ⟨s, hs⟩
      · exact ⟨s, by unfold findS at *; rw [List.find?_append, hs]; rfl⟩
    · obtain rfl : k = i := by omega
      split
      · rename_i h; exact Option.isSome_iff_exists.1 h
      · rename_i h
        have hn : findS (apt xs ts k) (xs.getD k 0) = none := by simpa using h
        exact ⟨_, by unfold findS at *; rw [List.find?_append, hn]; simp; rfl⟩
theorem apt_all (xs ts : List Int) : ∀ i, (∀ k, k < i → 0 ≤ ts.getD k 0 ∧ ts.getD k 0 ≤ 100) → ∀ s ∈ apt xs ts i, 0 ≤ s.acc ∧ s.acc < 4 ∧ 0 ≤ s.time ∧ s.time ≤ 100 ∧ s.cl = false
  | 0, _, s, hs => by simp [apt] at hs
  | i + 1, h, s, hs => by
    have ih := apt_all xs ts i (fun k hk => h k (by omega))
    simp only [apt] at hs
    split at hs
    · exact ih s hs
    · rcases List.mem_append.1 hs with hs | hs
      · exact ih s hs
      · simp only [List.mem_singleton] at hs
        subst hs
        have := h i (by omega)
        exact ⟨by simp only; omega, by simp only; omega, this.1, this.2, rfl⟩
theorem cnt_four : ∀ (l : List St), (∀ s ∈ l, 0 ≤ s.acc ∧ s.acc < 4 ∧ 0 ≤ s.time ∧ s.time ≤ 100 ∧ s.cl = false) → cntS l 0 100 + cntS l 1 100 + cntS l 2 100 + cntS l 3 100 = l.length
  | [], _ => rfl
  | s :: l, h => by
    have ih := cnt_four l (fun t ht => h t (List.mem_cons_of_mem _ ht))
    obtain ⟨h1, h2, h3, h4, h5⟩ := h s (by simp)
    unfold cntS at *
    simp only [List.countP_cons, List.length_cons]
    have hh : ∀ a : Int, cnts a 100 s = decide (s.acc = a) := fun a => by
      simp [cnts, h5, h4]
      intro _
      omega
    simp only [hh]
    obtain h | h | h | h : s.acc = 0 ∨ s.acc = 1 ∨ s.acc = 2 ∨ s.acc = 3 := by omega
    all_goals simp [h]; omega
theorem cnt_far (l : List St) (h : ∀ s ∈ l, 0 ≤ s.acc ∧ s.acc < 4 ∧ 0 ≤ s.time ∧ s.time ≤ 100 ∧ s.cl = false) (a : Int) (ha : 4 ≤ a) : cntS l a 100 = 0 :=
  cnt_zero fun s hs ⟨h1, _⟩ => by have := h s hs; omega
/-- A map that tells whose. -/
structure Whose (E : List Ent) (l : List St) : Prop where
  same : E.map (fun e => (e.key, e.val)) = l.map (fun s => (s.key, Value.int .i64 s.acc))
  keys : KeysOnce E
theorem Whose.find_same : ∀ (E : List Ent) (l : List St), E.map (fun e => (e.key, e.val)) = l.map (fun s => (s.key, Value.int .i64 s.acc)) → ∀ k, findE E k = (findS l k).map (fun s => Value.int .i64 s.acc)
  | [], [], _, k => rfl
  | e :: E, s :: l, h, k => by
    simp only [List.map_cons, List.cons.injEq, Prod.mk.injEq] at h
    have ih := Whose.find_same E l h.2 k
    unfold findE findS at *
    simp only [List.find?_cons, h.1.1]
    split
    · simp [h.1.2]
    · exact ih
  | [], s :: l, h, _ => by simp at h
  | e :: E, [], h, _ => by simp at h
theorem Whose.add {E : List Ent} {l : List St} (h : Whose E l) (s : St) (ck : Nat) (hf : findS l s.key = none) : Whose (updE E s.key (.int .i64 s.acc) ck) (l ++ [s]) := by
  have ha : (E.any fun e => e.key == s.key) = false := by rw [Holds.any_find, Whose.find_same E l h.same, hf]; rfl
  have e1 : updE E s.key (.int .i64 s.acc) ck = E ++ [⟨s.key, .int .i64 s.acc, ck⟩] := by unfold updE; rw [ha]; rfl
  rw [e1]
  refine ⟨by simp [h.same], ?_⟩
  unfold KeysOnce
  rw [List.map_append, List.nodup_append]
  refine ⟨h.keys, by simp, ?_⟩
  intro a ha' b hb'
  simp at hb'
  obtain ⟨e, he, rfl⟩ := List.mem_map.1 ha'
  have := List.any_eq_false.1 ha e he
  rw [hb']
  simpa using this
/-- 'm[k]'. -/
theorem run_lookup_plain {P : Program} (w : World) (t K E : TypeId) (ht : P.underlying t = some (.map K E)) (hk : P.underlying K = some (.int .i64)) (z : Value) (hz : (P.info? E).bind (·.zero) = some z)
    (b : Nat) (l : List Ent) (ck : Nat) (k : Int) (hb : MapBlk w b (toEs l) ck) :
    (Instr.lookup t (.map (some b)) (.int .i64 k) false).run P w = .ok ((findE l k).getD z) w := by
  obtain ⟨i, hi, hz'⟩ := Option.bind_eq_some_iff.1 hz
  have hf := run_findKey_int w K hk k l
  simp only [Instr.lookup, Sem.run_bind, run_underlying ht, Result.andThen_ok, run_getMap hb, Sem.run_pure, run_checkKey_int w _ 9999 K _ hk k, hf, ← findE_idx]
  cases hq : l.findIdx? (fun e => e.key == k) with
  | none => simp [zeroValue, typeInfo, hi, hz']
  | some j =>
    cases hj : l[j]? with
    | none => simp [hj, zeroValue, typeInfo, hi, hz']
    | some e => simp [hj]
theorem zero_int_v : (Try.prog.info? 3).bind (·.zero) = some (.int .i64 0) := by kernel_rfl

/-! ### [8]int -/
theorem zero_eight : (Try.prog.info? 35).bind (fun i => i.zero.map Value.cells) = some (nums .i64 (zeros 8)) := by kernel_rfl
theorem zero_eight_v : (Try.prog.info? 35).bind (·.zero) = some (.agg (nums .i64 (zeros 8))) := by kernel_rfl
theorem size_eight : (Try.prog.info? 35).map (·.size) = some 8 := by kernel_rfl
theorem size_int : (Try.prog.info? 3).map (·.size) = some 1 := by kernel_rfl
theorem run_buildEight (W : World) : (Instr.build 35 #[]).run Try.prog W = .ok (.agg (nums .i64 (zeros 8))) W := by
  obtain ⟨i, hi, hz⟩ := Option.bind_eq_some_iff.1 zero_eight_v
  obtain ⟨j, hj, hs⟩ := Option.map_eq_some_iff.1 size_int
  have hsz : (Try.prog.info? 3) = some j := hj
  simp [Instr.build, zeroValue, typeInfo, hi, hz, run_underlying Try.underlying35, sizeOf, hsz, Instr.fill, Value.cells]
section
variable {dst : Option Tmp} {ty : TypeId} {pos : String} {after : Array Edge} {gd : Option (Nat × Bool)} {a : Act} {w : World} {K : Act → World → Prop} {Q : Exit → Act → World → Prop}
@[go_sem ↓] theorem wp_bu_eight : Oper.wp Try.prog ⟨dst, .build 35 #[], ty, pos, after, gd⟩ a w K Q = K (a.put dst (.agg (nums .i64 (zeros 8)))) w := by
  have := run_buildEight w
  unfold Oper.wp
  simp only [execOp, Sem.run_bind, Array.map_empty, this, Sem.run_pure, Result.andThen_ok, Oper.upon_value]
@[go_sem ↓] theorem wp_st_eight (x y : Operand) : Oper.wp Try.prog ⟨dst, .store 35 x y, ty, pos, after, gd⟩ a w K Q =
    Oper.upon Try.prog ⟨dst, .store 35 x y, ty, pos, after, gd⟩ a K Q ((stRun Try.prog 35 (a.eval x) (a.eval y) w).andThen fun _ w' => .ok .skip w') := wp_st _ _ _
@[go_sem ↓] theorem wp_al_eight : Oper.wp Try.prog ⟨dst, .alloc 35, ty, pos, after, gd⟩ a w K Q =
    K (a.put dst (.pointer (some ⟨w.heap.size, 0, none⟩))) (w.alloc (.cells (nums .i64 (zeros 8)) 35)) := wp_al _ _ zero_eight
end
@[go_sem] theorem stRun_eight (w : World) (b off : Nat) (cs : Array Value) (hs : cs.size = 8) (h : MayPut w b off cs) : stRun Try.prog 35 (.pointer (some ⟨b, off, none⟩)) (.agg cs) w = .ok () (putRow w b off cs) :=
  run_storeRow w 35 b off cs (by rw [hs]; exact size_eight) h

/-- The counts, told up to n. -/
def manyTo (l : List St) (n : Nat) : List Int := (List.range 8).map fun k => if k < n then (cntS l k 100 : Int) else 0
theorem manyTo_length (l : List St) (n : Nat) : (manyTo l n).length = 8 := by simp [manyTo]
theorem manyTo_zero (l : List St) : manyTo l 0 = zeros 8 := by simp [manyTo, zeros, List.range, List.range.loop, List.replicate]
theorem manyTo_succ (l : List St) (n : Nat) (h : n < 8) : (manyTo l n).set n (cntS l n 100 : Int) = manyTo l (n + 1) := by
  apply List.ext_getElem
  · simp [manyTo]
  · intro k h1 h2
    have hk : k < 8 := by simpa [manyTo] using h2
    rw [List.getElem_set]
    simp only [manyTo, List.getElem_map, List.getElem_range]
    by_cases hkn : n = k
    · subst hkn; simp
    · rw [if_neg hkn]
      by_cases hlt : k < n
      · rw [if_pos hlt, if_pos (by omega)]
      · rw [if_neg hlt, if_neg (by omega)]
theorem manyTo_get (l : List St) (k : Nat) (h : k < 8) : (nums .i64 (manyTo l 8))[k]? = some (.int .i64 (cntS l k 100)) := by
  rw [nums_get_lt _ _ _ (by rw [manyTo_length]; exact h)]
  simp [manyTo, List.getD_eq_getElem?_getD, h]

set_option maxRecDepth 10000 in
set_option maxHeartbeats 4000000 in
theorem apart_ok (A B : Option Addr) (xs ts : List Int) (c c' : Nat) (w : World) (hx : Reads w .i64 A xs) (hb : Reads w .i64 B ts) :
    Calls Try.prog 3 #[.slice A xs.length c, .slice B ts.length c'] w fun e w' => e = .returned (.bool true) ∧ Below w.heap.size w w' := by
  obtain ⟨g, hg⟩ : ∃ g, w.heap.size = g := ⟨_, rfl⟩
  have HX := Fact.mk (And.intro hx hb)
  have hmm := @run_makeMap Try.prog
  clear hx hb
  go_enter Try.func3, Try.ntmps3
  go_wp2_with (first | (go_at_call 6; refine (awake_ok _).mono ?_; rintro e w1 ⟨rfl, l1⟩; have hs1 : w.heap.size ≤ w1.heap.size := l1.size; have H1 := Fact.mk l1; clear l1) | (go_at_call 7; refine (disk_new 64 _ _ rfl (by omega) (by omega)).mono ?_; rintro e w2 ⟨rfl, d2, l2⟩; have H2 := Fact.mk (And.intro d2 l2); clear d2 l2) | (go_at_call 8; refine (begun_ok _ _ _ 64 0 _ _ rfl (by exact H2.out.1) (by omega)).mono ?_; rintro e w3 ⟨lb, rfl, L3, l3⟩; have H3 := Fact.mk (And.intro L3 l3); clear L3 l3))
  all_goals
    have B3 : Below g w w3 := by
      have h1 := H1.out; have h2 := H2.out.2; have h3 := H3.out.2
      have z1 := h1.size; have z2 := h2.size
      rw [hg] at h1 z1
      exact (h1.trans (h2.mono z1)).trans (h3.mono (by omega))
    first
    | (go_ret; first | exact ⟨rfl, B3⟩ | exact ⟨rfl, by rw [hg]; exact B3⟩)
    | skip
  clear hmm
  rename_i h4 K0 a0
  obtain ⟨hl30, hbl⟩ := h4
  have HBL : Fact (xs.length ≤ ts.length) := ⟨by omega⟩
  clear hbl
  have hfin : Fact (∀ W : World, Below g w W → Below w.heap.size w W) := ⟨fun W h => by rw [hg]; exact h⟩
  have hgm : g ≤ w3.heap.size := by have := B3.size; omega
  have L3 : Led w3 (fun i => g ≤ i ∧ ¬ i = w3.heap.size) lb 64 0 [] := H3.out.1.mono (fun i hi h => by have z1 := H1.out.size; have z2 := H2.out.2.size; omega)
  have L4 := L3.mod (S := fun _ => False) ((Mod.refl _ _).alloc (.map #[] 0)) (fun _ h => h.elim)
  have M4 : MapBlk (w3.alloc (.map #[] 0)) w3.heap.size #[] 0 := MapBlk.new _ _ _
  have B4 : Below g w (w3.alloc (.map #[] 0)) := B3.alloc hgm _
  have z4 : w3.heap.size < (w3.alloc (.map #[] 0)).heap.size := by simp
  clear L3 B3 H1 H2 H3 hs1
  generalize w3.alloc (.map #[] 0) = w4 at *
  generalize w3.heap.size = wm at *
  have H4 := Fact.mk (And.intro L4 (And.intro M4 (And.intro B4 z4)))
  clear L4 M4 B4 z4
  go_loopw [11] (fun v wr => ∃ i : Nat, i ≤ xs.length ∧ v = .int .i64 i ∧ Fact (∃ many Ew cw, many ≤ i ∧ Led wr (fun i => g ≤ i ∧ ¬ i = wm) lb 64 many (apt xs ts i) ∧ MapBlk wr wm (toEs Ew) cw ∧ Whose Ew (apt xs ts i) ∧ Below g w wr ∧ wm < wr.heap.size ∧ ∀ k, k < i → 0 ≤ ts.getD k 0 ∧ ts.getD k 0 ≤ 100)) (fun v _ => xs.length - (intOf v).toNat)
  case atStart => exact ⟨0, by omega, rfl, ⟨0, [], 0, by omega, H4.out.1, H4.out.2.1, ⟨rfl, by simp [KeysOnce]⟩, H4.out.2.2.1, H4.out.2.2.2, fun k hk => by omega⟩⟩
  case round =>
    clear H4
    obtain ⟨i, hi, rfl, ⟨many, Ew, cw, hm, HI⟩⟩ := hrel
    have HI := Fact.mk HI
    by_cases hlt : i < xs.length
    · have hbl := HBL.out
      have hlt' : (i : Int) < xs.length := by omega
      have hltb' : (i : Int) < ts.length := by omega
      obtain ⟨a, rfl, hca⟩ := HX.out.1 i hlt
      obtain ⟨b, rfl, hcb⟩ := HX.out.2 i (by omega)
      clear hbl
      have hag : (a.add i).block < g := by rw [← hg]; exact World.block_lt_of_cell? w _ hca
      have hbg : (b.add i).block < g := by rw [← hg]; exact World.block_lt_of_cell? w _ hcb
      obtain ⟨L, M, Wh, B0, hwm, hts⟩ := HI.out
      have ha0 := hca
      have hb0 := hcb
      rw [← B0.cell hag] at hca
      rw [← B0.cell hbg] at hcb
      have hla := fun W => run_lookup_ok (P := Try.prog) W 32 3 3 Try.underlying32 Try.underlying3 _ zero_int_v wm Ew cw (xs.getD i 0)
      rw [Whose.find_same Ew _ Wh.same] at hla
      have hnext : apt xs ts (i + 1) = if (findS (apt xs ts i) (xs.getD i 0)).isSome then apt xs ts i else apt xs ts i ++ [⟨xs.getD i 0, ((i % 4 : Nat) : Int), ts.getD i 0, false⟩] := rfl
      have hand := and3 i (by omega)
      have hr0 : 0 ≤ ((i % 4 : Nat) : Int) := by omega
      have hr1 : ((i % 4 : Nat) : Int) < 8 := by omega
      generalize ((i % 4 : Nat) : Int) = r at hnext hand hr0 hr1
      have HN := Fact.mk (And.intro hnext hts)
      have HC := Fact.mk (And.intro ha0 hb0)
      have HI := Fact.mk (And.intro L (And.intro M (And.intro Wh (And.intro B0 hwm))))
      have hF : Fact (∀ i, wr.heap.size ≤ i → g ≤ i ∧ ¬ i = wm) := ⟨fun i h => by omega⟩
      clear hnext hts ha0 hb0 L Wh B0
      generalize hxx : xs.getD i 0 = x at *
      generalize htt : ts.getD i 0 = t at *
      have HXT := Fact.mk (And.intro hxx htt)
      clear hxx htt
      cases hf : findS (apt xs ts i) x with
      | none =>
        rw [hf] at hla
        simp only [Option.map_none, Option.getD_none, Option.isSome_none] at hla
        have hmu := fun W => run_mapUpdate_int (P := Try.prog) W 32 3 3 Try.underlying32 Try.underlying3 wm Ew HI.out.2.2.1.keys cw x (.int .i64 r)
        have HF := Fact.mk hf
        clear hf
        go_wp2_with fail
        all_goals first | (go_ret; first | exact ⟨rfl, HI.out.2.2.2.1⟩ | exact ⟨rfl, hfin.out _ HI.out.2.2.2.1⟩) | skip
        rename_i h5 K5 a5
        obtain ⟨⟨⟨hx0, hx1⟩, ht0⟩, ht1⟩ := h5
        go_region_held3 (fun w' => w'.cell? (a.add i) = some (.int .i64 x) ∧ w'.cell? (b.add i) = some (.int .i64 t)) (first | (constructor <;> assumption) | go_keep) (first | (go_at_call 9; (refine (add_ok (fun i => g ≤ i ∧ ¬ i = wm) lb 64 many (apt xs ts i) r x t wr.drew (HI.out.1.drew) (fun i h => hF.out i h) (by omega) (by exact HF.out) hr0 hr1 hx0 (by omega) ht0 (by omega)).mono ?_; rintro e wA ⟨rfl, LA, mA0⟩; have mA : Mod (fun i => g ≤ i ∧ ¬ i = wm) wr wA := ⟨mA0.os, mA0.tape, mA0.output, mA0.size, mA0.block⟩; have BA := HI.out.2.2.2.1.trans (mA.toBelow (B := g) (by omega) (fun _ h => h.1)); have hcaA : wA.cell? (a.add i) = some (.int .i64 x) := (BA.cell hag).trans HC.out.1; have hcbA : wA.cell? (b.add i) = some (.int .i64 t) := (BA.cell hbg).trans HC.out.2; have MA := HI.out.2.1.mod mA (fun h => h.2 rfl); have hwA : wm < wA.heap.size := MA.lt; have HA := Fact.mk (And.intro LA BA); clear LA mA0 mA BA)))
        have hap : apt xs ts (i + 1) = apt xs ts i ++ [⟨x, r, t, false⟩] := by rw [HN.out.1, HF.out]; rfl
        have hts' : ∀ k, k < i + 1 → 0 ≤ ts.getD k 0 ∧ ts.getD k 0 ≤ 100 := by
          intro k hk
          rcases Nat.lt_or_ge k i with h | h
          · exact HN.out.2 k h
          · obtain rfl : k = i := by omega
            rw [HXT.out.2]; exact ⟨ht0, ht1⟩
        have HP := Fact.mk (And.intro hap hts')
        clear hap hts' hla
        go_wp2_with fail
        go_roundw
        case rel =>
          refine ⟨i + 1, by omega, by go_num, ⟨many + 1, updE Ew x (.int .i64 r) cw, updCk Ew x cw, by omega, ?_, MA.put _ _, ?_, ?_, ?_, HP.out.2⟩⟩
          · rw [HP.out.1]
            exact HA.out.1.mod (mod_putMap _ _ _ _) (fun j hj _ hF => hF.2 hj)
          · rw [HP.out.1]
            exact HI.out.2.2.1.add ⟨x, r, t, false⟩ cw HF.out
          · exact HA.out.2.trans ((mod_putMap _ _ _ _).toBelow (by have := HA.out.2.size; omega) (by rintro j rfl; exact hgm))
          · rw [size_putMap]; exact hwA
        case measure => simp [intOf]; omega
      | some s =>
        rw [hf] at hla
        simp only [Option.map_some, Option.getD_some, Option.isSome_some] at hla
        have HF := Fact.mk hf
        clear hf
        go_wp2_with fail
        all_goals first | (go_ret; first | exact ⟨rfl, HI.out.2.2.2.1⟩ | exact ⟨rfl, hfin.out _ HI.out.2.2.2.1⟩) | skip
        rename_i h5 K5 a5
        obtain ⟨⟨⟨hx0, hx1⟩, ht0⟩, ht1⟩ := h5
        go_region_held3 (fun w' => w'.cell? (a.add i) = some (.int .i64 x) ∧ w'.cell? (b.add i) = some (.int .i64 t)) (first | (constructor <;> assumption) | go_keep) (first | (go_at_call 9; (refine (add_twice (fun i => g ≤ i ∧ ¬ i = wm) lb 64 many (apt xs ts i) r x t s wr.drew (HI.out.1.drew) (by exact HF.out) hr0 hr1 hx0 (by omega) ht0 (by omega)).mono ?_; rintro e wA ⟨rfl, lA⟩; have mA : Mod (fun _ => False) wr wA := Mod.belowAll (below_drew lA) (Nat.le_refl _); have BA := HI.out.2.2.2.1.trans (mA.toBelow (B := g) (by omega) (fun _ h => h.elim)); have hcaA : wA.cell? (a.add i) = some (.int .i64 x) := (BA.cell hag).trans HC.out.1; have hcbA : wA.cell? (b.add i) = some (.int .i64 t) := (BA.cell hbg).trans HC.out.2; have MA := HI.out.2.1.mod mA (fun h => h); have hwA : wm < wA.heap.size := MA.lt; have HA := Fact.mk (And.intro (HI.out.1.mod mA (fun _ h => h.elim)) BA); clear lA mA BA)))
        have hap : apt xs ts (i + 1) = apt xs ts i := by rw [HN.out.1, HF.out]; rfl
        have hts' : ∀ k, k < i + 1 → 0 ≤ ts.getD k 0 ∧ ts.getD k 0 ≤ 100 := by
          intro k hk
          rcases Nat.lt_or_ge k i with h | h
          · exact HN.out.2 k h
          · obtain rfl : k = i := by omega
            rw [HXT.out.2]; exact ⟨ht0, ht1⟩
        have HP := Fact.mk (And.intro hap hts')
        clear hap hts' hla
        go_wp2_with fail
        go_roundw
        case rel =>
          refine ⟨i + 1, by omega, by go_num, ⟨many, Ew, cw, by omega, ?_, MA, ?_, HA.out.2, hwA, HP.out.2⟩⟩
          · rw [HP.out.1]; exact HA.out.1
          · rw [HP.out.1]; exact HI.out.2.2.1
        case measure => simp [intOf]; omega
    · obtain rfl : i = xs.length := by omega
      clear hlt
      obtain ⟨L, M, Wh, B0, hwm, hts⟩ := HI.out
      have HI := Fact.mk (And.intro L (And.intro M (And.intro Wh (And.intro B0 hts))))
      clear L M Wh B0 hts
      have hall := apt_all xs ts xs.length HI.out.2.2.2.2
      have hhas := apt_has xs ts xs.length
      have hlen := apt_length xs ts xs.length
      have hes : (toEs Ew).size = (apt xs ts xs.length).length := by
        have := congrArg List.length HI.out.2.2.1.same
        simp only [List.length_map] at this
        simp [toEs, this]
      have h30 : (apt xs ts xs.length).length ≤ 30 := by omega
      have HQ := Fact.mk (And.intro HI.out.1 (And.intro HI.out.2.1 (And.intro HI.out.2.2.1 (And.intro HI.out.2.2.2.1 (And.intro hall (And.intro hhas hes))))))
      clear hall hhas hlen HI
      generalize apt xs ts xs.length = l at *
      go_wp2_with fail
      have L5 : Led wr (fun i => g ≤ i ∧ ¬ i = wm ∧ ¬ i = wr.heap.size) lb 64 many l := HQ.out.1.mono (fun i hi h => ⟨h.1, h.2, by omega⟩)
      have L6 := L5.mod (S := fun _ => False) ((Mod.refl _ _).alloc (.cells (nums .i64 (zeros 8)) 35)) (fun _ h => h.elim)
      have M6 : MapBlk (wr.alloc (.cells (nums .i64 (zeros 8)) 35)) wm (toEs Ew) cw := HQ.out.2.1.alloc _
      have A6 := Blk.new wr (nums .i64 (zeros 8)) 35
      have hgr : g ≤ wr.heap.size := by omega
      have B6 : Below g w (wr.alloc (.cells (nums .i64 (zeros 8)) 35)) := HQ.out.2.2.2.1.alloc hgr _
      generalize wr.alloc (.cells (nums .i64 (zeros 8)) 35) = w6 at *
      have hwa : ¬ wm = wr.heap.size := by omega
      generalize wr.heap.size = am at *
      have H6 := Fact.mk (And.intro L6 (And.intro M6 (And.intro A6 B6)))
      have HJ := Fact.mk HQ.out.2.2
      clear L5 L6 M6 A6 B6 HQ
      go_loopw [16] (fun v ws => ∃ j : Nat, j ≤ xs.length ∧ v = .int .i64 j ∧ Fact (Led ws (fun i => g ≤ i ∧ ¬ i = wm ∧ ¬ i = am) lb 64 many l ∧ MapBlk ws wm (toEs Ew) cw ∧ Blk ws am (nums .i64 (zeros 8)) 35 ∧ Below g w ws)) (fun v _ => xs.length - (intOf v).toNat)
      case atStart => exact ⟨0, by omega, rfl, H6⟩
      case round =>
        clear H6
        obtain ⟨j, hj, rfl, HK⟩ := hrel
        by_cases hlt : j < xs.length
        · have hlt' : (j : Int) < xs.length := by omega
          obtain ⟨a, rfl, hca⟩ := HX.out.1 j hlt
          have hag : (a.add j).block < g := by rw [← hg]; exact World.block_lt_of_cell? w _ hca
          have ha0 := hca
          rw [← HK.out.2.2.2.cell hag] at hca
          obtain ⟨s, hfs⟩ := HJ.out.2.2.2.1 j hlt
          have hscl := (HJ.out.2.2.1 s (Holds.mem_of_find hfs).1).2.2.2.2
          have hlp := fun W => run_lookup_plain (P := Try.prog) W 32 3 3 Try.underlying32 Try.underlying3 _ zero_int_v wm Ew cw (xs.getD j 0)
          rw [Whose.find_same Ew _ HJ.out.1.same, hfs] at hlp
          simp only [Option.map_some, Option.getD_some] at hlp
          have hof := of_ok (fun i => g ≤ i ∧ ¬ i = wm ∧ ¬ i = am) lb 64 many l (xs.getD j 0) s wr HK.out.1 hfs
          rw [hscl] at hof
          have HO := Fact.mk hof
          have HA0 := Fact.mk ha0
          clear hof hfs hscl ha0
          generalize xs.getD j 0 = x at *
          go_wp2_with (go_at_call 10; refine HO.out.mono ?_; rintro e wA ⟨rfl, lA⟩; have mA : Mod (fun _ => False) wr wA := Mod.belowAll lA (Nat.le_refl _); have BA := HK.out.2.2.2.trans (mA.toBelow (B := g) (by have := HK.out.2.2.2.size; omega) (fun _ h => h.elim)); have hcaA : wA.cell? (a.add j) = some (.int .i64 x) := (BA.cell hag).trans HA0.out; have MA := HK.out.2.1.mod mA (fun h => h); have HA := Fact.mk (And.intro (HK.out.1.mod mA (fun _ h => h.elim)) (And.intro MA (And.intro (HK.out.2.2.1.mod mA (fun h => h)) BA))); clear lA mA BA)
          go_roundw
          case rel => exact ⟨j + 1, by omega, by go_num, HA⟩
          case measure => simp [intOf]; omega
        · obtain rfl : j = xs.length := by omega
          clear hlt HX
          have hwf : wm < wr.heap.size := HK.out.2.1.lt
          have haf : am < wr.heap.size := HK.out.2.2.1.lt
          have HK := Fact.mk (And.intro HK.out.1 (And.intro HK.out.2.1 (And.intro (by rw [manyTo_zero]; exact HK.out.2.2.1 : Blk wr am (nums .i64 (manyTo l 0)) 35) HK.out.2.2.2)))
          go_wp2_with fail
          go_loopw [20] (fun v wt => ∃ n : Nat, n ≤ 8 ∧ v = .int .i64 n ∧ Fact (Led wt (fun i => g ≤ i ∧ ¬ i = wm ∧ ¬ i = am) lb 64 many l ∧ MapBlk wt wm (toEs Ew) cw ∧ Blk wt am (nums .i64 (manyTo l n)) 35 ∧ Below g w wt)) (fun v _ => 8 - (intOf v).toNat)
          case atStart => exact ⟨0, by omega, rfl, HK⟩
          case round =>
            clear HK
            obtain ⟨n, hn, rfl, HK⟩ := hrel
            by_cases hlt : n < 8
            · have hlt' : (n : Int) < 8 := by omega
              go_wp2_with (go_at_call 11; refine (count_ok (fun i => g ≤ i ∧ ¬ i = wm ∧ ¬ i = am) lb 64 many l n 100 wr (by exact HK.out.1) (by omega) (by omega)).mono ?_; rintro e wA ⟨rfl, lA⟩; have mA : Mod (fun _ => False) wr wA := Mod.belowAll lA (Nat.le_refl _); have BA := HK.out.2.2.2.trans (mA.toBelow (B := g) (by have := HK.out.2.2.2.size; omega) (fun _ h => h.elim)); have AA := HK.out.2.2.1.mod mA (fun h => h); have fA := AA.free n; have cA : wA.cell? ⟨am, n, none⟩ = some (.int .i64 ((manyTo l n).getD n 0)) := (AA.cell n).trans (nums_get_lt _ _ _ (by rw [manyTo_length]; exact hlt)); have HA := Fact.mk (And.intro (HK.out.1.mod mA (fun _ h => h.elim)) (And.intro (HK.out.2.1.mod mA (fun h => h)) (And.intro AA BA))); clear lA mA BA AA)
              go_roundw
              case rel =>
                refine ⟨n + 1, by omega, by go_num, ⟨HA.out.1.mod ((Mod.refl (· = am) _).setCell (by exact .inl rfl) _) (fun i hi _ h => h.2.2 hi), HA.out.2.1.setOther (by exact hwa) _, ?_, HA.out.2.2.2.setCell (by exact hgr) _⟩⟩
                rw [← manyTo_succ l n hlt, ← nums_set]
                exact HA.out.2.2.1.set _ _
              case measure => simp [intOf]; omega
            · obtain rfl : n = 8 := by omega
              have hq := HK.out.2.2.1
              have c0 : wr.cell? ⟨am, 0, none⟩ = some (.int .i64 (cntS l 0 100)) := (hq.cell 0).trans (manyTo_get l 0 (by omega))
              have c1 : wr.cell? ⟨am, 1, none⟩ = some (.int .i64 (cntS l 1 100)) := (hq.cell 1).trans (manyTo_get l 1 (by omega))
              have c2 : wr.cell? ⟨am, 2, none⟩ = some (.int .i64 (cntS l 2 100)) := (hq.cell 2).trans (manyTo_get l 2 (by omega))
              have c3 : wr.cell? ⟨am, 3, none⟩ = some (.int .i64 (cntS l 3 100)) := (hq.cell 3).trans (manyTo_get l 3 (by omega))
              have c4 : wr.cell? ⟨am, 4, none⟩ = some (.int .i64 (cntS l 4 100)) := (hq.cell 4).trans (manyTo_get l 4 (by omega))
              have c5 : wr.cell? ⟨am, 5, none⟩ = some (.int .i64 (cntS l 5 100)) := (hq.cell 5).trans (manyTo_get l 5 (by omega))
              have c6 : wr.cell? ⟨am, 6, none⟩ = some (.int .i64 (cntS l 6 100)) := (hq.cell 6).trans (manyTo_get l 6 (by omega))
              have c7 : wr.cell? ⟨am, 7, none⟩ = some (.int .i64 (cntS l 7 100)) := (hq.cell 7).trans (manyTo_get l 7 (by omega))
              rw [cnt_far l HJ.out.2.2.1 4 (by omega)] at c4
              rw [cnt_far l HJ.out.2.2.1 5 (by omega)] at c5
              rw [cnt_far l HJ.out.2.2.1 6 (by omega)] at c6
              rw [cnt_far l HJ.out.2.2.1 7 (by omega)] at c7
              have hMh : wr.heap[wm]? = some (.map (toEs Ew) cw) := HK.out.2.1
              have h4 := cnt_four l HJ.out.2.2.1
              have HB := Fact.mk HK.out.2.2.2
              clear HK hq HJ
              generalize cntS l 0 100 = q0 at *
              generalize cntS l 1 100 = q1 at *
              generalize cntS l 2 100 = q2 at *
              generalize cntS l 3 100 = q3 at *
              have hsum : (q0 : Int) + q1 + q2 + q3 = l.length := by omega
              clear hlt
              have hln : ∀ ty, (Builtin.len_ #[32] ty #[.map (some wm)]).run Try.prog wr = .ok (.int .i64 (l.length : Int)) wr := by
                intro ty
                have := run_len_map (P := Try.prog) (w := wr) 32 ty wm (toEs Ew) cw (by simp [Program.mapKeyOf, Program.mapElemOf, Try.underlying32]) hMh
                rw [hes] at this
                exact this
              clear hMh hes
              go_wp2_with fail
              go_ret
              exact ⟨rfl, hfin.out _ HB.out⟩
end Go.Proofs.Ytcdjglkcblphlaa
