/- Maps whose keys are whole numbers, entry by entry: no program in them. -/
import Derived.Test.YtcdjglkcblphlaaBase
import Derived.MapKept
set_option linter.unusedVariables false
set_option linter.unusedSimpArgs false
namespace Go.Proofs.Ytcdjglkcblphlaa
open Go.RowKit

/-- A map's entry: its key, what it holds, and when it was born. -/
structure Ent where
  key : Int
  val : Value
  born : Nat
def Ent.toM (e : Ent) : MapEntry := ⟨.int .i64 e.key, e.val, e.born⟩
def toEs (l : List Ent) : Array MapEntry := (l.map Ent.toM).toArray
/-- What a key holds. -/
def findE (l : List Ent) (k : Int) : Option Value := (l.find? (fun e => e.key == k)).map (·.val)
/-- A store. -/
def updE (l : List Ent) (k : Int) (v : Value) (ck : Nat) : List Ent := if (l.any fun e => e.key == k) then l.map (fun e => if e.key == k then ⟨k, v, e.born⟩ else e) else l ++ [⟨k, v, ck⟩]
def updCk (l : List Ent) (k : Int) (ck : Nat) : Nat := if (l.any fun e => e.key == k) then ck else ck + 1
/-- No key twice. -/
def KeysOnce (l : List Ent) : Prop := (l.map (·.key)).Nodup

def putMap (w : World) (b : Nat) (es : Array MapEntry) (ck : Nat) : World := { w with heap := w.heap.setIfInBounds b (.map es ck) }
theorem MapBlk.put {w : World} {b : Nat} {es : Array MapEntry} {c : Nat} (h : MapBlk w b es c) (es' : Array MapEntry) (c' : Nat) : MapBlk (putMap w b es' c') b es' c' := by
  have := h.lt
  unfold MapBlk putMap
  simp [Array.getElem?_setIfInBounds, this]
theorem heap_putMap (w : World) (b : Nat) (es : Array MapEntry) (ck i : Nat) (h : ¬ i = b) : (putMap w b es ck).heap[i]? = w.heap[i]? := by
  unfold putMap
  simp [Array.getElem?_setIfInBounds, show ¬ b = i by omega]
theorem mod_putMap (w : World) (b : Nat) (es : Array MapEntry) (ck : Nat) : Mod (· = b) w (putMap w b es ck) := ⟨rfl, rfl, rfl, by simp [putMap], fun i _ h => heap_putMap w b es ck i h⟩
@[go_sem] theorem size_putMap (w : World) (b : Nat) (es : Array MapEntry) (ck : Nat) : (putMap w b es ck).heap.size = w.heap.size := by simp [putMap]
@[go_sem] theorem putMap_drew (w : World) (b : Nat) (es : Array MapEntry) (ck : Nat) : putMap w.drew b es ck = (putMap w b es ck).drew := rfl
@[go_sem] theorem mapBlk_drew (w : World) (b : Nat) (es : Array MapEntry) (c : Nat) : MapBlk w.drew b es c = MapBlk w b es c := propext ⟨fun h => h, fun h => h⟩
@[go_sem] theorem mapBlk_drewN (w : World) (b n : Nat) (es : Array MapEntry) (c : Nat) : MapBlk (w.drewN n) b es c = MapBlk w b es c := propext ⟨fun h => h, fun h => h⟩
@[go_sem] theorem mapBlk_setCell (w : World) (p : Addr) (v : Value) (b : Nat) (es : Array MapEntry) (c : Nat) (h : ¬ b = p.block) : MapBlk (w.setCell p v) b es c = MapBlk w b es c := by
  unfold MapBlk
  rw [Below.heap_setCell w p v b h]
@[go_sem] theorem mapBlk_alloc (w : World) (o : Obj) (b : Nat) (es : Array MapEntry) (c : Nat) (h : b < w.heap.size) : MapBlk (w.alloc o) b es c = MapBlk w b es c := by
  unfold MapBlk
  rw [Below.heap_alloc w o b h]
@[go_sem] theorem cell?_putMap (w : World) (b c o ck : Nat) (es : Array MapEntry) (h : ¬ c = b) : (putMap w b es ck).cell? ⟨c, o, none⟩ = w.cell? ⟨c, o, none⟩ := World.cell?_of_block (heap_putMap w b es ck c h)
@[go_sem] theorem frozen?_putMap (w : World) (b c o ck : Nat) (es : Array MapEntry) (h : ¬ c = b) : (putMap w b es ck).frozen? ⟨c, o, none⟩ = w.frozen? ⟨c, o, none⟩ := World.frozen?_of_block (heap_putMap w b es ck c h)

theorem findNow_ents (k : Int) : ∀ (l : List Ent) (i : Nat), Instr.findNow (.int .i64) (.int .i64 k) (l.map Ent.toM) i = some ((l.findIdx? (fun e => e.key == k)).bind fun j => (l[j]?).map fun e => (i + j, e.val))
  | [], i => by simp [Instr.findNow]
  | e :: l, i => by
    have hs : Instr.sameNow (.int .i64) (.int .i64 k) e.toM.key = some (k == e.key) := by simp [Instr.sameNow, Ent.toM]
    simp only [List.map_cons, Instr.findNow, hs]
    by_cases h : k = e.key
    · subst h
      simp [List.findIdx?_cons, Ent.toM]
    · have h' : (e.key == k) = false := by simpa using fun h'' => h h''.symm
      have h'' : (k == e.key) = false := by simpa using h
      simp only [h'', findNow_ents k l (i + 1), List.findIdx?_cons, h']
      cases l.findIdx? (fun e => e.key == k) with
      | none => simp
      | some j => simp [Nat.add_assoc, Nat.add_comm 1 j]

section
variable {P : Program}
theorem run_checkKey_int (w : World) (b : Bool) (n : Nat) (K : TypeId) (k : IntKind) (hk : P.underlying K = some (.int k)) (x : Int) : (Instr.checkKey b (n + 1) K (.int .i64 x)).run P w = .ok () w := by
  simp [Instr.checkKey, run_underlying hk]
theorem run_findKey_int (w : World) (K : TypeId) (hk : P.underlying K = some (.int .i64)) (k : Int) (l : List Ent) :
    (Instr.findKey K (.int .i64 k) (toEs l).toList).run P w = .ok ((l.findIdx? (fun e => e.key == k)).bind fun j => (l[j]?).map fun e => (j, e.val)) w := by
  have := findNow_ents k l 0
  simp only [Nat.zero_add] at this
  simp [Instr.findKey, run_underlying hk, toEs, this]
theorem findE_idx (l : List Ent) (k : Int) : (l.findIdx? (fun e => e.key == k)).bind (fun j => (l[j]?).map (·.val)) = findE l k := by
  unfold findE
  induction l with
  | nil => rfl
  | cons e l ih =>
    by_cases h : e.key = k
    · simp [List.findIdx?_cons, h]
    · have h' : (e.key == k) = false := by simpa using h
      simp only [List.findIdx?_cons, h', List.find?_cons]
      cases hq : l.findIdx? (fun e => e.key == k) with
      | none => simp [hq] at ih; simp [ih]
      | some j => simp [hq] at ih; simp [ih]
theorem run_getMap {w : World} {b : Nat} {es : Array MapEntry} {ck : Nat} (hb : MapBlk w b es ck) : (getObj b).run P w = .ok (.map es ck) w := by
  unfold MapBlk at hb
  simp [getObj, Sem.run, hb]
theorem run_setMap {w : World} {b : Nat} {es : Array MapEntry} {ck : Nat} (hb : MapBlk w b es ck) (es' : Array MapEntry) (ck' : Nat) : (setObj b (.map es' ck')).run P w = .ok () (putMap w b es' ck') := by
  unfold MapBlk at hb
  simp [setObj, Sem.run, hb, putMap]
/-- 'v, ok := m[k]'. -/
theorem run_lookup_ok (w : World) (t K E : TypeId) (ht : P.underlying t = some (.map K E)) (hk : P.underlying K = some (.int .i64)) (z : Value) (hz : (P.info? E).bind (·.zero) = some z)
    (b : Nat) (l : List Ent) (ck : Nat) (k : Int) (hb : MapBlk w b (toEs l) ck) :
    (Instr.lookup t (.map (some b)) (.int .i64 k) true).run P w = .ok (.tuple #[(findE l k).getD z, .bool (findE l k).isSome]) w := by
  obtain ⟨i, hi, hz'⟩ := Option.bind_eq_some_iff.1 hz
  have hf := run_findKey_int w K hk k l
  simp only [Instr.lookup, Sem.run_bind, run_underlying ht, Result.andThen_ok, run_getMap hb, Sem.run_pure, run_checkKey_int w _ 9999 K _ hk k, hf, ← findE_idx]
  cases hq : l.findIdx? (fun e => e.key == k) with
  | none => simp [zeroValue, typeInfo, hi, hz']
  | some j =>
    cases hj : l[j]? with
    | none => simp [hj, zeroValue, typeInfo, hi, hz']
    | some e => simp [hj]
/-- 'm[k] = v'. -/
theorem run_mapUpdate_int (w : World) (t K E : TypeId) (ht : P.underlying t = some (.map K E)) (hk : P.underlying K = some (.int .i64))
    (b : Nat) (l : List Ent) (hl : KeysOnce l) (ck : Nat) (k : Int) (v : Value) (hb : MapBlk w b (toEs l) ck) :
    (Instr.mapUpdate t (.map (some b)) (.int .i64 k) v).run P w = .ok () (putMap w b (toEs (updE l k v ck)) (updCk l k ck)) := by
  have hf := run_findKey_int w K hk k l
  simp only [Instr.mapUpdate, Sem.run_bind, run_underlying ht, Result.andThen_ok, run_getMap hb, Sem.run_pure, run_checkKey_int w _ 9999 K _ hk k, hf]
  cases hq : l.findIdx? (fun e => e.key == k) with
  | none =>
    have hany : l.any (fun e => e.key == k) = false := by
      rw [List.findIdx?_eq_none_iff] at hq
      rw [List.any_eq_false]
      intro e he
      simpa using hq e he
    simp only [Option.bind_none]
    rw [run_setMap hb]
    simp [updE, updCk, hany, toEs, Ent.toM]
  | some j =>
    obtain ⟨hj, hkey, hfirst⟩ := List.findIdx?_eq_some_iff_getElem.1 hq
    have hany : l.any (fun e => e.key == k) = true := List.any_eq_true.2 ⟨l[j], List.getElem_mem hj, hkey⟩
    have hkey' : l[j].key = k := by simpa using hkey
    have hst : (Instr.keyThatStays ((((toEs l)[j]?).map (·.key)).getD (.int .i64 k)) (.int .i64 k)).run P w = .ok (.int .i64 k) w := by
      have : (((toEs l)[j]?).map (·.key)).getD (.int .i64 k) = .int .i64 k := by simp [toEs, hj, Ent.toM, hkey']
      rw [this]
      simp [Instr.keyThatStays, Instr.sameBits]
    simp only [List.getElem?_eq_getElem hj, Option.bind_some, Option.map_some, Sem.run_bind, hst, Result.andThen_ok]
    rw [run_setMap hb]
    have e : (toEs l).modify j (fun e => { e with key := .int .i64 k, val := v }) = toEs (updE l k v ck) := by
      apply Array.ext_getElem?
      intro i
      simp only [updE, hany, if_true, toEs, Array.getElem?_modify, List.getElem?_toArray, List.getElem?_map]
      by_cases hij : j = i
      · subst hij
        simp [hj, hkey', Ent.toM]
      · simp only [if_neg hij]
        cases hi : l[i]? with
        | none => rfl
        | some e =>
          have hi' := (List.getElem?_eq_some_iff.1 hi).1
          have hei := (List.getElem?_eq_some_iff.1 hi).2
          have hne : ¬ e.key = k := by
            intro hek
            have := List.pairwise_iff_getElem.1 hl
            rcases Nat.lt_or_gt_of_ne hij with h | h
            · exact this j i (by simpa using hj) (by simpa using hi') h (by simp [hei, hkey', hek])
            · exact this i j (by simpa using hi') (by simpa using hj) h (by simp [hei, hkey', hek])
          simp [hne]
    rw [e]
    simp [updCk, hany]
/-- 'clear(m)'. -/
theorem run_clear_map (w : World) (t ty K E : TypeId) (ht : P.underlying t = some (.map K E)) (b ck : Nat) (es : Array MapEntry) (hb : MapBlk w b es ck) :
    (Builtin.clear_ #[t] ty #[.map (some b)]).run P w = .ok (.tuple #[]) (putMap w b (toEs []) ck) := by
  simp [Builtin.clear_, run_underlying ht, run_getMap hb, run_setMap hb, toEs]

/-! ### Ranging -/
/-- The iterator's block. -/
def IterBlk (w : World) (r b since : Nat) (seen : Array Nat) (last : Nat) : Prop := w.heap[r]? = some (.mapIter (some b) since seen last)
def putIter (w : World) (r b since : Nat) (seen : Array Nat) (last : Nat) : World := { w with heap := w.heap.setIfInBounds r (.mapIter (some b) since seen last) }
theorem IterBlk.lt {w : World} {r b since last : Nat} {seen : Array Nat} (h : IterBlk w r b since seen last) : r < w.heap.size := lt_of_some h
theorem IterBlk.mod {S : Nat → Prop} {w w' : World} {r b since last : Nat} {seen : Array Nat} (h : IterBlk w r b since seen last) (hm : Mod S w w') (hs : ¬ S r) : IterBlk w' r b since seen last := (hm.block r h.lt hs).trans h
theorem iter_putIter {w : World} {r b since : Nat} (h : r < w.heap.size) (seen' : Array Nat) (last' : Nat) : IterBlk (putIter w r b since seen' last') r b since seen' last' := by
  unfold IterBlk putIter
  simp [Array.getElem?_setIfInBounds, h]
theorem mod_putIter (w : World) (r b since last : Nat) (seen : Array Nat) : Mod (· = r) w (putIter w r b since seen last) :=
  ⟨rfl, rfl, rfl, by simp [putIter], fun i _ h => by unfold putIter; simp [Array.getElem?_setIfInBounds, show ¬ r = i by omega]⟩
theorem run_range_map (w : World) (t K E : TypeId) (ht : P.underlying t = some (.map K E)) (b ck : Nat) (es : Array MapEntry) (hb : MapBlk w b es ck) :
    (Instr.range t (.map (some b))).run P w = .ok (.pointer (some ⟨w.heap.size, 0, none⟩)) (w.alloc (.mapIter (some b) ck #[] ck)) := by
  simp [Instr.range, run_underlying ht, run_getMap hb, newObj, Sem.run]
theorem iter_new (w : World) (b ck : Nat) : IterBlk (w.alloc (.mapIter (some b) ck #[] ck)) w.heap.size b ck #[] ck := by
  unfold IterBlk; show (w.heap.push _)[_]? = _; simp
/-- Nothing is left. -/
theorem run_next_done (w : World) (r b ck ty : Nat) (l : List Ent) (seen : Array Nat) (hb : MapBlk w b (toEs l) ck) (hi : IterBlk w r b ck seen ck) (hbn : ∀ e ∈ l, e.born < ck) (hall : ∀ e ∈ l, e.born ∈ seen) :
    (Instr.next (.pointer (some ⟨r, 0, none⟩)) false ty).run P w = .ok (.tuple #[.bool false]) w := by
  have hg : (getObj r).run P w = .ok (.mapIter (some b) ck seen ck) w := by unfold IterBlk at hi; simp [getObj, Sem.run, hi]
  have h1 : (!seen.isEmpty && !(toEs l).isEmpty && (toEs l).all (fun e => decide (e.born ≥ ck))) = false := by
    cases l with
    | nil => simp [toEs]
    | cons e l =>
      have := hbn e (by simp)
      have h2 : (toEs (e :: l)).all (fun e => decide (e.born ≥ ck)) = false := by
        simp [toEs, Ent.toM]
        exact fun h => absurd h (by omega)
      rw [h2, Bool.and_false]
  have h2 : (toEs l).filter (fun e => !seen.contains e.born) = #[] := by
    apply Array.filter_eq_empty_iff.2
    intro e he
    simp only [toEs, List.mem_toArray, List.mem_map] at he
    obtain ⟨x, hx, rfl⟩ := he
    have := hall x hx
    simpa [Ent.toM] using this
  simp only [Instr.next, Sem.run_bind, hg, Result.andThen_ok, run_getMap hb, h1, h2]
  simp [choose, Sem.run, Question.forced]
/-- One of those that are left comes. -/
theorem run_next_more (w : World) (r b ck ty : Nat) (l : List Ent) (seen : Array Nat) (hb : MapBlk w b (toEs l) ck) (hi : IterBlk w r b ck seen ck) (hbn : ∀ e ∈ l, e.born < ck) (hsome : ¬ ∀ e ∈ l, e.born ∈ seen) :
    ∃ e ∈ l, e.born ∉ seen ∧ ∃ w', (Instr.next (.pointer (some ⟨r, 0, none⟩)) false ty).run P w = .ok (.tuple #[.bool true, .int .i64 e.key, e.val]) w' ∧
      IterBlk w' r b ck (seen.push e.born) ck ∧ Mod (· = r) w w' ∧ w'.heap.size = w.heap.size := by
  have hg : (getObj r).run P w = .ok (.mapIter (some b) ck seen ck) w := by unfold IterBlk at hi; simp [getObj, Sem.run, hi]
  have h1 : (!seen.isEmpty && !(toEs l).isEmpty && (toEs l).all (fun e => decide (e.born ≥ ck))) = false := by
    cases l with
    | nil => simp [toEs]
    | cons e l =>
      have := hbn e (by simp)
      have h2 : (toEs (e :: l)).all (fun e => decide (e.born ≥ ck)) = false := by
        simp [toEs, Ent.toM]
        exact fun h => absurd h (by omega)
      rw [h2, Bool.and_false]
  have hleft : ∀ e ∈ (toEs l).filter (fun e => !seen.contains e.born), ∃ x ∈ l, x.toM = e ∧ x.born ∉ seen := by
    intro e he
    rw [Array.mem_filter] at he
    simp only [toEs, List.mem_toArray, List.mem_map] at he
    obtain ⟨⟨x, hx, rfl⟩, hs⟩ := he
    exact ⟨x, hx, rfl, by simpa [Ent.toM] using hs⟩
  have hne : ((toEs l).filter (fun e => !seen.contains e.born)).size ≠ 0 := by
    intro h0
    apply hsome
    intro e he
    have h0' : (toEs l).filter (fun e => !seen.contains e.born) = #[] := Array.eq_empty_of_size_eq_zero h0
    have := (Array.filter_eq_empty_iff.1 h0') e.toM (by simp [toEs]; exact ⟨e, he, rfl⟩)
    simpa [Ent.toM] using this
  generalize hL : (toEs l).filter (fun e => !seen.contains e.born) = L at *
  have hold : L.filter (fun e => decide (e.born < ck)) = L := by
    rw [Array.filter_eq_self]
    intro e he
    obtain ⟨x, hx, rfl, _⟩ := hleft e he
    exact decide_eq_true (hbn x hx)
  have hnew : L.filter (fun e => decide (e.born ≥ ck)) = #[] := by
    apply Array.filter_eq_empty_iff.2
    intro e he
    obtain ⟨x, hx, rfl, _⟩ := hleft e he
    have := hbn x hx
    simp [Ent.toM]; omega
  have hemp : L.isEmpty = false := by simp [Array.isEmpty_eq_false_iff]; exact fun h => hne (by simp [h])
  have hrun : ∀ (k : Nat) (w1 : World), k < L.size → (∀ c : Nat, w1.heap[c]? = w.heap[c]?) → ∃ x ∈ l, x.born ∉ seen ∧ L[k]? = some x.toM := by
    intro k w1 hk _
    obtain ⟨x, hx, he, hs⟩ := hleft L[k] (Array.getElem_mem hk)
    exact ⟨x, hx, hs, by simp [hk, he]⟩
  have hlt := hi.lt
  -- the choice
  have hch : ∃ k w1, (choose (.mapNext ((#[] : Array (Option MapEntry)) ++ (L ++ #[]).map some).size)).run P w = .ok k w1 ∧ k < L.size ∧ w1.heap = w.heap ∧ Mod (fun _ => False) w w1 := by
    simp only [choose, Sem.run, Question.forced, Question.cut]
    have hsz : ((#[] : Array (Option MapEntry)) ++ (L ++ #[]).map some).size = L.size := by simp
    rw [hsz]
    by_cases h1 : L.size ≤ 1
    · exact ⟨0, w, by simp [h1], by omega, rfl, Mod.refl _ _⟩
    · exact ⟨w.tape w.drawn (Question.mapNext L.size) % L.size, w.drew, by simp only [decide_eq_true_eq, if_neg h1]; rfl, Nat.mod_lt _ (by omega), rfl, (Mod.refl _ _).drew⟩
  obtain ⟨k, w1, hc, hk, hh, hm⟩ := hch
  obtain ⟨x, hx, hs, hxk⟩ := hrun k w1 hk (fun c => by rw [hh])
  have hset : (setObj r (.mapIter (some b) ck (seen.push x.toM.born) ck)).run P w1 = .ok () (putIter w1 r b ck (seen.push x.born) ck) := by
    unfold IterBlk at hi
    simp [setObj, Sem.run, hh, hi, putIter, Ent.toM]
  refine ⟨x, hx, hs, putIter w1 r b ck (seen.push x.born) ck, ?_, iter_putIter (by rw [hh]; exact hlt) _ _, (hm.mono (fun _ h => h.elim)).trans (mod_putIter _ _ _ _ _ _), by simp [putIter, hh]⟩
  simp only [Instr.next, Sem.run_bind, hg, Result.andThen_ok, run_getMap hb, h1, hL, hold, hnew, hemp, Bool.false_eq_true, if_false, hc]
  have hcand : ((#[] : Array (Option MapEntry)) ++ (L ++ #[]).map some)[k]? = some (some x.toM) := by simp [hxk]
  simp only [hcand, Sem.run_bind, hset, Result.andThen_ok, Sem.run_pure]
  rfl
theorem run_entry (w : World) (r b ck : Nat) (l : List Ent) (seen : Array Nat) (x : Ent) (hb : MapBlk w b (toEs l) ck) (hi : IterBlk w r b ck (seen.push x.born) ck) (hx : x ∈ l) (hn : (l.map (·.born)).Nodup) :
    (Instr.entry (.pointer (some ⟨r, 0, none⟩))).run P w = .ok (.tuple #[.int .i64 x.key, x.val]) w := by
  have hg : (getObj r).run P w = .ok (.mapIter (some b) ck (seen.push x.born) ck) w := by unfold IterBlk at hi; simp [getObj, Sem.run, hi]
  have hf : (toEs l).find? (fun e => e.born == x.born) = some x.toM := by
    simp only [toEs, List.find?_toArray]
    clear hb hi hg
    induction l with
    | nil => simp at hx
    | cons e l ih =>
      simp only [List.map_cons, List.nodup_cons, List.mem_map, not_exists, not_and] at hn
      rcases List.mem_cons.1 hx with rfl | hx
      · simp [Ent.toM]
      · have hne : ¬ e.born = x.born := fun h => hn.1 x hx h.symm
        simp only [List.map_cons, List.find?_cons]
        have : (e.toM.born == x.born) = false := by simpa [Ent.toM] using hne
        rw [this]
        exact ih hx hn.2
  simp only [Instr.entry, Sem.run_bind, hg, Result.andThen_ok]
  simp [run_getMap hb, hf, Ent.toM]
end
section
variable {P : Program} {ops : Array Oper} {o : Oper} {rest : List Oper} {a : Act} {w : World} {Q : Exit → Act → World → Prop}
theorem wpl_next_done (hgd : o.guard = none) (x : Operand) (ho : o.op = .next x false) (r b ck : Nat) (hx : a.eval x = .pointer (some ⟨r, 0, none⟩)) (l : List Ent) (seen : Array Nat)
    (hb : MapBlk w b (toEs l) ck) (hi : IterBlk w r b ck seen ck) (hbn : ∀ e ∈ l, e.born < ck) (hall : ∀ e ∈ l, e.born ∈ seen)
    (h : wpList P ops Q rest (a.put o.dst (.tuple #[.bool false])) w) : wpList P ops Q (o :: rest) a w := by
  refine wpList_plain hgd fun K hK => ?_
  have hr := run_next_done (P := P) w r b ck o.type l seen hb hi hbn hall
  unfold Oper.wp
  simp [execOp, ho, hx, hr, Result.andThen]
  exact hK _ _ h
theorem wpl_next_more (hgd : o.guard = none) (x : Operand) (ho : o.op = .next x false) (r b ck : Nat) (hx : a.eval x = .pointer (some ⟨r, 0, none⟩)) (l : List Ent) (seen : Array Nat)
    (hb : MapBlk w b (toEs l) ck) (hi : IterBlk w r b ck seen ck) (hbn : ∀ e ∈ l, e.born < ck) (hsome : ¬ ∀ e ∈ l, e.born ∈ seen)
    (h : ∀ e w', Fact (e ∈ l ∧ e.born ∉ seen) → Fact (IterBlk w' r b ck (seen.push e.born) ck) → Fact (Mod (· = r) w w') → Fact (w'.heap.size = w.heap.size) → wpList P ops Q rest (a.put o.dst (.tuple #[.bool true, .int .i64 e.key, e.val])) w') :
    wpList P ops Q (o :: rest) a w := by
  refine wpList_plain hgd fun K hK => ?_
  obtain ⟨e, he, hs, w', hr, h1, h2, h3⟩ := run_next_more (P := P) w r b ck o.type l seen hb hi hbn hsome
  unfold Oper.wp
  simp [execOp, ho, hx, hr, Result.andThen]
  exact hK _ _ (h e w' ⟨he, hs⟩ ⟨h1⟩ ⟨h2⟩ ⟨h3⟩)
end
end Go.Proofs.Ytcdjglkcblphlaa
