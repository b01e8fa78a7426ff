/- Lemmas on memory that the walks of this claim share: no program in them. -/
import Derived.Below
import Derived.Deep.Draws
import Derived.OwnWalk
import Derived.WalkKit
import Derived.KernelRfl
import Derived.RowKit3
import Derived.RowKit
import Derived.Carry
import Derived.Maps.Own
import Derived.Laws.Rows
import Derived.IntWalk
import Derived.Laws.CopyOwn
import Derived.Maps.AppendAt
set_option linter.unusedVariables false
namespace Go.Proofs.Ytcdjglkcblphlaa
open Go.RowKit

/-- A fact that the walk does not look into. -/
structure Fact (p : Prop) : Prop where mk :: (out : p)

/-- w' is w but for the blocks of S and new ones. -/
structure Mod (S : Nat → Prop) (w w' : World) : Prop where
  os : w'.os = w.os
  tape : w'.tape = w.tape
  output : w'.output = w.output
  size : w.heap.size ≤ w'.heap.size
  block : ∀ i, i < w.heap.size → ¬ S i → w'.heap[i]? = w.heap[i]?

namespace Mod
theorem refl (S : Nat → Prop) (w : World) : Mod S w w := ⟨rfl, rfl, rfl, Nat.le_refl _, fun _ _ _ => rfl⟩
theorem trans {S : Nat → Prop} {a b c : World} (h : Mod S a b) (k : Mod S b c) : Mod S a c :=
  ⟨k.os.trans h.os, k.tape.trans h.tape, k.output.trans h.output, Nat.le_trans h.size k.size, fun i hi hs => (k.block i (Nat.lt_of_lt_of_le hi h.size) hs).trans (h.block i hi hs)⟩
/-- The second step may turn what is new behind the first. -/
theorem trans' {S T U : Nat → Prop} {a b c : World} (h : Mod S a b) (k : Mod T b c) (hs : ∀ i, S i → U i) (ht : ∀ i, i < a.heap.size → T i → U i) : Mod U a c :=
  ⟨k.os.trans h.os, k.tape.trans h.tape, k.output.trans h.output, Nat.le_trans h.size k.size, fun i hi hu =>
    (k.block i (Nat.lt_of_lt_of_le hi h.size) (fun h => hu (ht i hi h))).trans (h.block i hi (fun h => hu (hs i h)))⟩
theorem mono {S T : Nat → Prop} {a b : World} (h : Mod S a b) (hs : ∀ i, S i → T i) : Mod T a b := ⟨h.os, h.tape, h.output, h.size, fun i hi ht => h.block i hi (fun k => ht (hs i k))⟩
theorem drew {S : Nat → Prop} {a w : World} (h : Mod S a w) : Mod S a w.drew := ⟨h.os, h.tape, h.output, h.size, h.block⟩
theorem drewN {S : Nat → Prop} {a w : World} (h : Mod S a w) (n : Nat) : Mod S a (w.drewN n) := ⟨h.os, h.tape, h.output, h.size, h.block⟩
theorem alloc {S : Nat → Prop} {a w : World} (h : Mod S a w) (o : Obj) : Mod S a (w.alloc o) :=
  h.trans ⟨rfl, rfl, rfl, by simp, fun k hk _ => Below.heap_alloc _ _ _ hk⟩
theorem setCell {S : Nat → Prop} {a w : World} (h : Mod S a w) {p : Addr} (hp : S p.block ∨ a.heap.size ≤ p.block) (u : Value) : Mod S a (w.setCell p u) :=
  ⟨h.os, h.tape, h.output, by simpa using h.size, fun k hk hs => (Below.heap_setCell _ _ _ _ (by rintro rfl; rcases hp with hp | hp; exact hs hp; omega)).trans (h.block k hk hs)⟩
theorem below {B : Nat} {a b : World} (h : Below B a b) : Mod (fun i => B ≤ i) a b := ⟨h.os, h.tape, h.output, h.size, fun i _ hs => h.block i (by omega)⟩
theorem toBelow {B : Nat} {S : Nat → Prop} {a b : World} (h : Mod S a b) (hB : B ≤ a.heap.size) (hs : ∀ i, S i → B ≤ i) : Below B a b := ⟨h.os, h.tape, h.output, h.size, fun i hi => h.block i (by omega) (fun k => by have := hs i k; omega)⟩
theorem of_grown {a b : World} {row : Option Nat} (h : a.grownBy b row) : Mod (fun i => row = some i) a b := ⟨h.os, h.tape, h.output, h.size, fun i hi hs => h.block i hi (fun e => hs e.symm)⟩
theorem belowAll {S : Nat → Prop} {a b : World} {B : Nat} (h : Below B a b) (hB : a.heap.size ≤ B) : Mod S a b := ⟨h.os, h.tape, h.output, h.size, fun i hi _ => h.block i (by omega)⟩
end Mod

theorem below_drew {B : Nat} {w w' : World} (h : Below B w.drew w') : Below B w w' := ⟨h.os, h.tape, h.output, h.size, h.block⟩
theorem below_drewN {B n : Nat} {w w' : World} (h : Below B (w.drewN n) w') : Below B w w' := ⟨h.os, h.tape, h.output, h.size, h.block⟩
theorem mod_drew {S : Nat → Prop} {w w' : World} (h : Mod S w.drew w') : Mod S w w' := ⟨h.os, h.tape, h.output, h.size, h.block⟩
theorem mod_drewN {S : Nat → Prop} {n : Nat} {w w' : World} (h : Mod S (w.drewN n) w') : Mod S w w' := ⟨h.os, h.tape, h.output, h.size, h.block⟩

/-- A block of cells, none of them frozen. -/
def Blk (w : World) (b : Nat) (cs : Array Value) (t : TypeId) : Prop := w.heap[b]? = some (.cells cs t (0, 0))
/-- A map's block. -/
def MapBlk (w : World) (b : Nat) (es : Array MapEntry) (clock : Nat) : Prop := w.heap[b]? = some (.map es clock)

theorem lt_of_some {w : World} {b : Nat} {o : Obj} (h : w.heap[b]? = some o) : b < w.heap.size := by
  rcases Nat.lt_or_ge b w.heap.size with h' | h'
  · exact h'
  · simp [Array.getElem?_eq_none h'] at h

namespace Blk
theorem lt {w : World} {b : Nat} {cs : Array Value} {t : TypeId} (h : Blk w b cs t) : b < w.heap.size := lt_of_some h
theorem cell {w : World} {b : Nat} {cs : Array Value} {t : TypeId} (h : Blk w b cs t) (i : Nat) : w.cell? ⟨b, i, none⟩ = cs[i]? := by
  unfold Blk at h; simp [World.cell?, h]
theorem free {w : World} {b : Nat} {cs : Array Value} {t : TypeId} (h : Blk w b cs t) (i : Nat) : w.frozen? ⟨b, i, none⟩ = false := by
  unfold Blk at h; simp [World.frozen?, h]
theorem mod {S : Nat → Prop} {w w' : World} {b : Nat} {cs : Array Value} {t : TypeId} (h : Blk w b cs t) (hm : Mod S w w') (hs : ¬ S b) : Blk w' b cs t := (hm.block b h.lt hs).trans h
theorem below {B : Nat} {w w' : World} {b : Nat} {cs : Array Value} {t : TypeId} (h : Blk w b cs t) (hm : Below B w w') (hs : b < B) : Blk w' b cs t := (hm.block b hs).trans h
theorem new (w : World) (cs : Array Value) (t : TypeId) : Blk (w.alloc (.cells cs t)) w.heap.size cs t := by
  unfold Blk; show (w.heap.push _)[_]? = _; simp
theorem new' (w : World) (b : Nat) (cs : Array Value) (t : TypeId) (hb : b = w.heap.size) : Blk (w.alloc (.cells cs t)) b cs t := by subst hb; exact new w cs t
theorem alloc {w : World} {b : Nat} {cs : Array Value} {t : TypeId} (h : Blk w b cs t) (o : Obj) : Blk (w.alloc o) b cs t := (Below.heap_alloc w o b h.lt).trans h
theorem drew {w : World} {b : Nat} {cs : Array Value} {t : TypeId} (h : Blk w b cs t) : Blk w.drew b cs t := h
theorem drewN {w : World} {b : Nat} {cs : Array Value} {t : TypeId} (h : Blk w b cs t) (n : Nat) : Blk (w.drewN n) b cs t := h
theorem setOther {w : World} {b : Nat} {cs : Array Value} {t : TypeId} (h : Blk w b cs t) {p : Addr} (hp : b ≠ p.block) (v : Value) : Blk (w.setCell p v) b cs t := (Below.heap_setCell w p v b hp).trans h
theorem set {w : World} {b : Nat} {cs : Array Value} {t : TypeId} (h : Blk w b cs t) (i : Nat) (v : Value) : Blk (w.setCell ⟨b, i, none⟩ v) b (cs.setIfInBounds i v) t := by
  unfold Blk at *; simp [World.setCell, Array.getElem?_modify, h]
end Blk
namespace MapBlk
theorem lt {w : World} {b : Nat} {es : Array MapEntry} {c : Nat} (h : MapBlk w b es c) : b < w.heap.size := lt_of_some h
theorem mod {S : Nat → Prop} {w w' : World} {b : Nat} {es : Array MapEntry} {c : Nat} (h : MapBlk w b es c) (hm : Mod S w w') (hs : ¬ S b) : MapBlk w' b es c := (hm.block b h.lt hs).trans h
theorem below {B : Nat} {w w' : World} {b : Nat} {es : Array MapEntry} {c : Nat} (h : MapBlk w b es c) (hm : Below B w w') (hs : b < B) : MapBlk w' b es c := (hm.block b hs).trans h
theorem new (w : World) (es : Array MapEntry) (c : Nat) : MapBlk (w.alloc (.map es c)) w.heap.size es c := by
  unfold MapBlk; show (w.heap.push _)[_]? = _; simp
theorem new' (w : World) (b : Nat) (es : Array MapEntry) (c : Nat) (hb : b = w.heap.size) : MapBlk (w.alloc (.map es c)) b es c := by subst hb; exact new w es c
theorem alloc {w : World} {b : Nat} {es : Array MapEntry} {c : Nat} (h : MapBlk w b es c) (o : Obj) : MapBlk (w.alloc o) b es c := (Below.heap_alloc w o b h.lt).trans h
theorem setOther {w : World} {b : Nat} {es : Array MapEntry} {c : Nat} (h : MapBlk w b es c) {p : Addr} (hp : b ≠ p.block) (v : Value) : MapBlk (w.setCell p v) b es c := (Below.heap_setCell w p v b hp).trans h
end MapBlk

/-- Whole numbers as cells. -/
def nums (k : IntKind) (xs : List Int) : Array Value := (xs.map (Value.int k)).toArray
theorem nums_size (k : IntKind) (xs : List Int) : (nums k xs).size = xs.length := by simp [nums]
theorem nums_get (k : IntKind) (xs : List Int) (i : Nat) : (nums k xs)[i]? = (xs[i]?).map (Value.int k) := by simp [nums]
theorem nums_get_lt (k : IntKind) (xs : List Int) (i : Nat) (h : i < xs.length) : (nums k xs)[i]? = some (.int k (xs.getD i 0)) := by
  simp [nums, h]
theorem nums_set (k : IntKind) (xs : List Int) (i : Nat) (x : Int) : (nums k xs).setIfInBounds i (.int k x) = nums k (xs.set i x) := by
  apply Array.ext_getElem?
  intro j
  simp only [nums, Array.getElem?_setIfInBounds, List.getElem?_toArray, List.getElem?_map, List.getElem?_set, List.size_toArray, List.length_map]
  split
  · split <;> simp
  · rfl

/-- So many noughts. -/
def zeros (n : Nat) : List Int := List.replicate n 0
theorem zeros_length (n : Nat) : (zeros n).length = n := List.length_replicate
theorem zeros_get (n i : Nat) (h : i < n) : (zeros n)[i]? = some 0 := by simp [zeros, h]
theorem zeros_getD (n i : Nat) : (zeros n).getD i 0 = 0 := by simp [zeros, List.getElem?_replicate]; split <;> rfl
/-- Rows of noughts, made. -/
theorem madeCells_zeros (k : IntKind) (s n : Nat) (hs : 0 < s) : madeCells (nums k (zeros s)) n = nums k (zeros n) := by
  apply Array.ext_getElem?
  intro j
  simp only [madeCells, nums_size, zeros_length, Array.getElem?_map]
  by_cases h : j < n
  · have hj : j % s < s := Nat.mod_lt _ hs
    have e1 : (nums k (zeros s))[j % s]! = .int k 0 := by
      rw [Array.getElem!_eq_getD, Array.getD_eq_getD_getElem?, nums_get_lt _ _ _ (by rw [zeros_length]; exact hj), zeros_getD]
      rfl
    simp only [Array.getElem?_range, h, if_true, Option.map_some, e1, nums_get, zeros_get _ _ h]
  · have : (nums k (zeros n))[j]? = none := by rw [nums_get]; simp [zeros, List.getElem?_eq_none (show (List.replicate n (0:Int)).length ≤ j by simp; omega)]
    rw [this]; simp [h]

theorem nums_oneCell (k : IntKind) (xs : List Int) : ∀ v ∈ xs.map (Value.int k), v.oneCell' = true := by
  intro v hv
  obtain ⟨x, _, rfl⟩ := List.mem_map.1 hv
  rfl
theorem mod_setRow (w : World) (g : Nat) (cs : Array Value) : Mod (· = g) w (w.setRow g cs) :=
  ⟨rfl, rfl, rfl, by simp [World.setRow], fun k _ hk => setRow_other w g k cs (by intro e; exact hk (by omega))⟩
theorem blk_setRow {w : World} {g : Nat} {cur : Array Value} {t : TypeId} (h : Blk w g cur t) (cs : Array Value) : Blk (w.setRow g cs) g cs t := setRow_heap w g _ cs t _ h

theorem nums_one (k : IntKind) (xs : List Int) : ∀ v ∈ (nums k xs).toList, v.oneCell' = true := by
  intro v hv
  exact nums_oneCell k xs v (by simpa [nums] using hv)

/-- A slice's numbers, whatever its address. -/
def Reads (w : World) (k : IntKind) (A : Option Addr) (xs : List Int) : Prop :=
  ∀ i : Nat, i < xs.length → ∃ a, A = some a ∧ w.cell? (a.add i) = some (.int k (xs.getD i 0))
theorem addr_add (g o i : Nat) : (⟨g, o, none⟩ : Addr).add i = ⟨g, o + i, none⟩ := by unfold Addr.add; split <;> simp_all
theorem Reads.of_blk {w : World} {k : IntKind} {g : Nat} {xs : List Int} {t : TypeId} (h : Blk w g (nums k xs) t) : Reads w k (some ⟨g, 0, none⟩) xs := by
  intro i hi
  refine ⟨_, rfl, ?_⟩
  rw [addr_add, Nat.zero_add, h.cell, nums_get_lt _ _ _ hi]
theorem Reads.nil (w : World) (k : IntKind) (A : Option Addr) : Reads w k A [] := fun i hi => absurd hi (by simp)
theorem Reads.lt {w : World} {k : IntKind} {A : Option Addr} {xs : List Int} (h : Reads w k A xs) : ∀ a, A = some a → 0 < xs.length → a.block < w.heap.size := by
  rintro a rfl hp
  obtain ⟨a', e, hc⟩ := h 0 hp
  cases e
  have := World.block_lt_of_cell? w _ hc
  simpa [Addr.add] using this
theorem Addr.add_block (a : Addr) (i : Nat) : (a.add i).block = a.block := by unfold Addr.add; split <;> rfl
theorem Reads.mod {S : Nat → Prop} {w w' : World} {k : IntKind} {A : Option Addr} {xs : List Int} (h : Reads w k A xs) (hm : Mod S w w') (hs : ∀ a, A = some a → 0 < xs.length → ¬ S a.block) : Reads w' k A xs := by
  intro i hi
  obtain ⟨a, e, hc⟩ := h i hi
  refine ⟨a, e, ?_⟩
  rw [← hc]
  have hlt := h.lt a e (by omega)
  exact World.cell?_of_block (by rw [Addr.add_block]; exact hm.block _ hlt (hs a e (by omega)))
theorem Reads.below {B : Nat} {w w' : World} {k : IntKind} {A : Option Addr} {xs : List Int} (h : Reads w k A xs) (hm : Below B w w') (hs : ∀ a, A = some a → 0 < xs.length → a.block < B) : Reads w' k A xs :=
  h.mod (Mod.below hm) (fun a e hp => by have := hs a e hp; omega)

theorem Reads.alloc {w : World} {k : IntKind} {A : Option Addr} {xs : List Int} (h : Reads w k A xs) (o : Obj) : Reads (w.alloc o) k A xs :=
  h.mod ((Mod.refl (fun _ => False) _).alloc o) (fun _ _ _ h => h)
theorem Reads.drew {w : World} {k : IntKind} {A : Option Addr} {xs : List Int} (h : Reads w k A xs) : Reads w.drew k A xs := h
/-- copy, onto a row of numbers. -/
theorem run_copy_nums {P : Program} (w : World) (dT sT ty elem : TypeId) (hu : P.underlying dT = some (.slice elem)) (hs : (P.info? elem).map (·.size) = some 1)
    (k : IntKind) (g off dLen dCap sLen sCap : Nat) (dp sp : Option Addr) (L xs : List Int) (t : TypeId) (hg : Blk w g (nums k L) t) (hn : xs.length = Nat.min sLen dLen)
    (hdp : 0 < xs.length → dp = some ⟨g, off, none⟩) (hsrc : Reads w k sp xs) (hfit : off + xs.length ≤ L.length) :
    ∃ w', (Builtin.copy_ #[dT, sT] ty #[.slice dp dLen dCap, .slice sp sLen sCap]).run P w = .ok (goInt xs.length) w' ∧ Blk w' g (nums k (splice L off xs)) t ∧ Mod (· = g) w w' ∧ w'.heap.size = w.heap.size := by
  by_cases h0 : xs.length = 0
  · obtain rfl : xs = [] := List.eq_nil_of_length_eq_zero h0
    refine ⟨w, ?_, by simpa [splice] using hg, Mod.refl _ _, rfl⟩
    exact run_copy_none (P := P) w dT sT ty elem dp sp dLen dCap sLen sCap hu hs (by simpa using hn.symm)
  · obtain ⟨a, rfl, _⟩ := hsrc 0 (by omega)
    have hd := hdp (by omega)
    subst hd
    have h1 := run_copy_row (P := P) w dT sT ty elem g off dLen dCap a sLen sCap (nums k L) t (xs.map (Value.int k)) hu hs hg (by simpa using hn) (by
        intro j v hv
        rw [List.getElem?_map] at hv
        obtain ⟨x, hx, rfl⟩ := Option.map_eq_some_iff.1 hv
        have hj := (List.getElem?_eq_some_iff.1 hx).1
        obtain ⟨a', e, hc⟩ := hsrc j hj
        cases e
        rw [hc, List.getD_eq_getElem?_getD, hx]
        rfl) (by simpa [nums_size] using hfit) (nums_oneCell _ _)
    rw [List.length_map, List.append_assoc] at h1
    have h2 := blk_setRow hg ((nums k L).toList.take off ++ (xs.map (Value.int k) ++ (nums k L).toList.drop (off + xs.length))).toArray
    have e : ((nums k L).toList.take off ++ (xs.map (Value.int k) ++ (nums k L).toList.drop (off + xs.length))).toArray = nums k (splice L off xs) := by simp [nums, splice]
    rw [e] at h1 h2
    exact ⟨_, h1, h2, mod_setRow w g _, by simp [World.setRow]⟩

/-- copy as a step of a region that draws. -/
theorem step_copy_nums {P : Program} {ops : Array Oper} {o : Oper} {a : Act} {w : World} {K : Act → World → Prop} {Q : Exit → Act → World → Prop} {E : Prop} (hgd : o.guard = none) (d s : Operand) (dT sT : TypeId)
    (ho : o.op = .call { callee := .builtin .copy, args := #[d, s], argTypes := #[dT, sT] }) (elem : TypeId) (hu : P.underlying dT = some (.slice elem)) (hsz : (P.info? elem).map (·.size) = some 1)
    (dp sp : Option Addr) (dLen dCap sLen sCap : Nat) (hd : a.eval d = .slice dp dLen dCap) (hs : a.eval s = .slice sp sLen sCap)
    (k : IntKind) (g off : Nat) (L xs : List Int) (t : TypeId) (hg : Blk w g (nums k L) t) (hn : xs.length = Nat.min sLen dLen)
    (hdp : 0 < xs.length → dp = some ⟨g, off, none⟩) (hsrc : Reads w k sp xs) (hfit : off + xs.length ≤ L.length)
    (h : ∀ w', Fact (Blk w' g (nums k (splice L off xs)) t) → Fact (Mod (· = g) w w') → Fact (w'.heap.size = w.heap.size) → K (a.put o.dst (goInt xs.length)) w') :
    if Region.wanted o (yielded ops a.tmps) = true then Oper.wp P o a w K Q else E := by
  obtain ⟨w', hrun, h1, h2, h3⟩ := run_copy_nums (P := P) w dT sT o.type elem hu hsz k g off dLen dCap sLen sCap dp sp L xs t hg hn hdp hsrc hfit
  rw [if_pos (by simp [Region.wanted, hgd])]
  unfold Oper.wp
  simp [execOp, ho, resolve, invoke, builtin, hd, hs, hrun, Result.andThen]
  exact h _ ⟨h1⟩ ⟨h2⟩ ⟨h3⟩
theorem wpList_copy_nums {P : Program} {ops : Array Oper} {o : Oper} {rest : List Oper} {a : Act} {w : World} {Q : Exit → Act → World → Prop} (hgd : o.guard = none) (d s : Operand) (dT sT : TypeId)
    (ho : o.op = .call { callee := .builtin .copy, args := #[d, s], argTypes := #[dT, sT] }) (elem : TypeId) (hu : P.underlying dT = some (.slice elem)) (hsz : (P.info? elem).map (·.size) = some 1)
    (dp sp : Option Addr) (dLen dCap sLen sCap : Nat) (hd : a.eval d = .slice dp dLen dCap) (hs : a.eval s = .slice sp sLen sCap)
    (k : IntKind) (g off : Nat) (L xs : List Int) (t : TypeId) (hg : Blk w g (nums k L) t) (hn : xs.length = Nat.min sLen dLen)
    (hdp : 0 < xs.length → dp = some ⟨g, off, none⟩) (hsrc : Reads w k sp xs) (hfit : off + xs.length ≤ L.length)
    (h : ∀ w', Fact (Blk w' g (nums k (splice L off xs)) t) → Fact (Mod (· = g) w w') → Fact (w'.heap.size = w.heap.size) → wpList P ops Q rest (a.put o.dst (goInt xs.length)) w') :
    wpList P ops Q (o :: rest) a w := by
  refine wpList_plain hgd fun K hK => ?_
  have := step_copy_nums (P := P) (ops := ops) (K := K) (Q := Q) (E := True) hgd d s dT sT ho elem hu hsz dp sp dLen dCap sLen sCap hd hs k g off L xs t hg hn hdp hsrc hfit (fun w' a b c => hK _ _ (h w' a b c))
  rwa [if_pos (by simp [Region.wanted, hgd])] at this

/-! ### Whole aggregates: made, read, stored -/
section
variable {P : Program}
def isAggD : TypeDesc → Bool | .struct _ => true | .array _ _ => true | _ => false
theorem run_isAgg {ty : TypeId} {d : TypeDesc} (hu : P.underlying ty = some d) (hd : isAggD d = true) (w : World) : (isAgg ty).run P w = .ok true w := by
  unfold isAgg
  rw [Sem.run_bind, run_underlying hu w]
  cases d <;> simp_all [isAggD]
theorem run_loadAgg (w : World) (ty : TypeId) (d : TypeDesc) (a : Addr) (cs : Array Value) (hu : P.underlying ty = some d) (hd : isAggD d = true) (hi : (P.info? ty).map (·.size) = some cs.size)
    (hc : ∀ (j : Nat) (v : Value), cs[j]? = some v → w.cell? (a.add j) = some v) : (Instr.loadAt ty (.pointer (some a))).run P w = .ok (.agg cs) w := by
  have hl : (loadCells a cs.toList.length).run P w = .ok cs.toList.toArray w := run_loadCells_list (P := P) w a cs.toList (fun j v hv => hc j v (by simpa using hv))
  obtain ⟨i, hq, hs⟩ := Option.map_eq_some_iff.1 hi
  simp only [Array.length_toList, Array.toArray_toList] at hl
  simp [Instr.loadAt, Instr.sureAddr, loadVar, Sem.run_bind, run_isAgg hu hd, sizeOf, typeInfo, hq, hs, hl]
/-- The cells from 'off' on, stored. -/
def aSplice (cur : Array Value) (off : Nat) (cs : Array Value) : Array Value := (splice cur.toList off cs.toList).toArray
theorem aSplice_nums (k : IntKind) (L : List Int) (off : Nat) (xs : List Int) : aSplice (nums k L) off (nums k xs) = nums k (splice L off xs) := by simp [aSplice, nums, splice]
theorem aSplice_whole (cur cs : Array Value) (h : cs.size = cur.size) : aSplice cur 0 cs = cs := by
  simp [aSplice, splice]
  rw [List.drop_eq_nil_of_le (by simp [h])]
  simp
theorem run_storeAgg (w : World) (ty : TypeId) (b off : Nat) (cur : Array Value) (t : TypeId) (cs : Array Value) (hi : (P.info? ty).map (·.size) = some cs.size)
    (hg : Blk w b cur t) (hfit : off + cs.size ≤ cur.size) (h1 : ∀ v ∈ cs.toList, v.oneCell' = true) :
    ∃ w', (Instr.storeAt ty (.pointer (some ⟨b, off, none⟩)) (.agg cs)).run P w = .ok () w' ∧ Blk w' b (aSplice cur off cs) t ∧ Mod (· = b) w w' ∧ w'.heap.size = w.heap.size := by
  obtain ⟨i, hq, hs⟩ := Option.map_eq_some_iff.1 hi
  have hst := run_storeCells_at P b off t cs.toList 0 cur w hg (by simpa using hfit) h1
  refine ⟨_, ?_, blk_setRow hg (aSplice cur off cs), mod_setRow w b _, by simp [World.setRow]⟩
  simp only [Nat.add_zero, Array.length_toList] at hst
  have e : (cur.toList.take off ++ cs.toList ++ cur.toList.drop (off + cs.size)).toArray = aSplice cur off cs := by simp [aSplice, splice]
  rw [e] at hst
  simp [Instr.storeAt, Instr.sureAddr, storeVar, Value.cells, sizeOf, typeInfo, hq, hs, hst]
theorem run_allocAgg (w : World) (ty : TypeId) (z : Array Value) (hz : (P.info? ty).bind (fun i => i.zero.map Value.cells) = some z) :
    (Instr.alloc ty true (.tuple #[])).run P w = .ok (.pointer (some ⟨w.heap.size, 0, none⟩)) (w.alloc (.cells z ty)) := by
  obtain ⟨i, hq, hs⟩ := Option.bind_eq_some_iff.1 hz
  obtain ⟨v, hv, rfl⟩ := Option.map_eq_some_iff.1 hs
  simp [Instr.alloc, zeroValue, typeInfo, hq, hv, newVar, newRow]

variable {ops : Array Oper} {o : Oper} {rest : List Oper} {a : Act} {w : World} {Q : Exit → Act → World → Prop} {K : Act → World → Prop} {E : Prop}
theorem wpl_alloc (hgd : o.guard = none) (ty : TypeId) (ho : o.op = .alloc ty) (z : Array Value) (hz : (P.info? ty).bind (fun i => i.zero.map Value.cells) = some z)
    (h : wpList P ops Q rest (a.put o.dst (.pointer (some ⟨w.heap.size, 0, none⟩))) (w.alloc (.cells z ty))) : wpList P ops Q (o :: rest) a w := by
  refine wpList_plain hgd fun K hK => ?_
  unfold Oper.wp
  simp [execOp, ho, run_allocAgg w ty z hz, Result.andThen]
  exact hK _ _ h
theorem wpl_load (hgd : o.guard = none) (ty : TypeId) (x : Operand) (ho : o.op = .load ty x) (d : TypeDesc) (hu : P.underlying ty = some d) (hd : isAggD d = true) (cs : Array Value) (hi : (P.info? ty).map (·.size) = some cs.size)
    (p : Addr) (hx : a.eval x = .pointer (some p)) (hc : ∀ (j : Nat) (v : Value), cs[j]? = some v → w.cell? (p.add j) = some v)
    (h : wpList P ops Q rest (a.put o.dst (.agg cs)) w) : wpList P ops Q (o :: rest) a w := by
  refine wpList_plain hgd fun K hK => ?_
  unfold Oper.wp
  simp [execOp, ho, hx, run_loadAgg w ty d p cs hu hd hi hc, Result.andThen]
  exact hK _ _ h
theorem step_load (hgd : o.guard = none) (ty : TypeId) (x : Operand) (ho : o.op = .load ty x) (d : TypeDesc) (hu : P.underlying ty = some d) (hd : isAggD d = true) (cs : Array Value) (hi : (P.info? ty).map (·.size) = some cs.size)
    (p : Addr) (hx : a.eval x = .pointer (some p)) (hc : ∀ (j : Nat) (v : Value), cs[j]? = some v → w.cell? (p.add j) = some v)
    (h : K (a.put o.dst (.agg cs)) w) : if Region.wanted o (yielded ops a.tmps) = true then Oper.wp P o a w K Q else E := by
  rw [if_pos (by simp [Region.wanted, hgd])]
  unfold Oper.wp
  simp [execOp, ho, hx, run_loadAgg w ty d p cs hu hd hi hc, Result.andThen]
  exact h
theorem step_store (hgd : o.guard = none) (ty : TypeId) (x y : Operand) (ho : o.op = .store ty x y) (cs : Array Value) (hi : (P.info? ty).map (·.size) = some cs.size)
    (b off : Nat) (hx : a.eval x = .pointer (some ⟨b, off, none⟩)) (hy : a.eval y = .agg cs) (cur : Array Value) (t : TypeId) (hg : Blk w b cur t) (hfit : off + cs.size ≤ cur.size) (h1 : ∀ v ∈ cs.toList, v.oneCell' = true)
    (h : ∀ w', Fact (Blk w' b (aSplice cur off cs) t) → Fact (Mod (· = b) w w') → Fact (w'.heap.size = w.heap.size) → K (a.put o.dst undef) w') :
    if Region.wanted o (yielded ops a.tmps) = true then Oper.wp P o a w K Q else E := by
  obtain ⟨w', hrun, b1, m1, z1⟩ := run_storeAgg (P := P) w ty b off cur t cs hi hg hfit h1
  rw [if_pos (by simp [Region.wanted, hgd])]
  unfold Oper.wp
  simp [execOp, ho, hx, hy, hrun, Result.andThen]
  exact h _ ⟨b1⟩ ⟨m1⟩ ⟨z1⟩
theorem wpl_store (hgd : o.guard = none) (ty : TypeId) (x y : Operand) (ho : o.op = .store ty x y) (cs : Array Value) (hi : (P.info? ty).map (·.size) = some cs.size)
    (b off : Nat) (hx : a.eval x = .pointer (some ⟨b, off, none⟩)) (hy : a.eval y = .agg cs) (cur : Array Value) (t : TypeId) (hg : Blk w b cur t) (hfit : off + cs.size ≤ cur.size) (h1 : ∀ v ∈ cs.toList, v.oneCell' = true)
    (h : ∀ w', Fact (Blk w' b (aSplice cur off cs) t) → Fact (Mod (· = b) w w') → Fact (w'.heap.size = w.heap.size) → wpList P ops Q rest (a.put o.dst undef) w') : wpList P ops Q (o :: rest) a w := by
  refine wpList_plain hgd fun K hK => ?_
  have := step_store (P := P) (ops := ops) (K := K) (Q := Q) (E := True) hgd ty x y ho cs hi b off hx hy cur t hg hfit h1 (fun w' x y z => hK _ _ (h w' x y z))
  rwa [if_pos (by simp [Region.wanted, hgd])] at this
end
theorem Blk.loads {w : World} {b : Nat} {cs : Array Value} {t : TypeId} (h : Blk w b cs t) : ∀ (j : Nat) (v : Value), cs[j]? = some v → w.cell? ((⟨b, 0, none⟩ : Addr).add j) = some v := by
  intro j v hv
  rw [addr_add, Nat.zero_add, h.cell, hv]
/-! ### append -/
/-- What the table says of an element's type. -/
def ElemInfo (P : Program) (e : TypeId) (size bytes : Nat) : Prop := (P.info? e).map (fun i => (i.zero.map (fun z => z.cells.size), i.size, i.bytes)) = some (some size, size, bytes)
/-- A slice's cells, whatever its address. -/
def ReadsV (w : World) (A : Option Addr) (vs : List Value) : Prop := ∀ (j : Nat) (u : Value), vs[j]? = some u → ∃ a, A = some a ∧ w.cell? (a.add j) = some u
theorem Reads.toV {w : World} {k : IntKind} {A : Option Addr} {xs : List Int} (h : Reads w k A xs) : ReadsV w A (xs.map (Value.int k)) := by
  intro j u hu
  rw [List.getElem?_map] at hu
  obtain ⟨x, hx, rfl⟩ := Option.map_eq_some_iff.1 hu
  obtain ⟨a, e, hc⟩ := h j (List.getElem?_eq_some_iff.1 hx).1
  exact ⟨a, e, by rw [hc, List.getD_eq_getElem?_getD, hx]; rfl⟩
theorem ReadsV.of_blk {w : World} {g : Nat} {cs : Array Value} {t : TypeId} (h : Blk w g cs t) : ReadsV w (some ⟨g, 0, none⟩) cs.toList := by
  intro j u hu
  exact ⟨_, rfl, h.loads j u (by simpa using hu)⟩
theorem run_append_g {P : Program} (w : World) (base : Nat) (t ty e : TypeId) (size bytes : Nat) (ht : P.underlying t = some (.slice e)) (hi : ElemInfo P e size bytes) (hsz : 0 < size) (hby : 0 < bytes)
    (v : Value) (n : Nat) (xs : List Value) (HO : w.ownsRow base e size v n xs) (A : Option Addr) (m c : Nat) (news : List Value) (hl : news.length = m * size) (hn : ReadsV w A news)
    (h1 : ∀ u ∈ news, u.oneCell' = true) (hb : (n + m) * bytes ≤ 140737488355328) (hbase : base ≤ w.heap.size) :
    ∃ v' w', (Builtin.append_ #[t, t] ty #[v, .slice A m c]).run P w = .ok v' w' ∧ w'.ownsRow base e size v' (n + m) (xs ++ news) ∧ w.grownBy w' v.ownBlock ∧ (v'.ownBlock = v.ownBlock ∨ v'.ownBlock = some w.heap.size) := by
  obtain ⟨i, hi', hz⟩ := Option.map_eq_some_iff.1 hi
  simp only [Prod.mk.injEq] at hz
  obtain ⟨hz0, hz1, hz2⟩ := hz
  obtain ⟨z, hzz, hzs⟩ := Option.map_eq_some_iff.1 hz0
  have h63 : n + m ≤ 140737488355328 := Nat.le_trans (Nat.le_mul_of_pos_right _ hby) hb
  cases A with
  | some a =>
    obtain ⟨v', w', hr, h2, h3, _, h5⟩ := run_append_own_at (P := P) w base t ty e i z size bytes ht hi' hzz hz1 hz2 hzs hsz v n xs HO a m c news hl (by
      intro j u hu
      obtain ⟨a', e', hc⟩ := hn j u hu
      cases e'
      exact hc) h1 (by simp only [maxLen]; omega) hb hbase
    exact ⟨v', w', hr, h2, h3, h5⟩
  | none =>
    have hnews : news = [] := by
      cases news with
      | nil => rfl
      | cons u us =>
        obtain ⟨a, e', _⟩ := hn 0 u rfl
        cases e'
    subst hnews
    have hm0 : m = 0 := by
      have h : 0 = m * size := hl
      rcases Nat.mul_eq_zero.1 h.symm with h | h
      · exact h
      · omega
    subst hm0
    refine ⟨v, w, ?_, by simpa using HO, World.grownBy.refl w _, .inl rfl⟩
    rcases HO.2 with ⟨rfl, rfl⟩ | ⟨g, cap, cur, rfl, _, _, hnc, _⟩
    · simp [Builtin.append_, run_underlying ht, sizeOf, typeInfo, hi', Builtin.lenOf, Builtin.firstCells]
    · simp [Builtin.append_, run_underlying ht, sizeOf, typeInfo, hi', Builtin.lenOf, Builtin.firstCells, hnc, storeCells]
section
variable {P : Program} {ops : Array Oper} {o : Oper} {rest : List Oper} {a : Act} {w : World} {Q : Exit → Act → World → Prop} {K : Act → World → Prop} {E : Prop}
theorem step_append (hgd : o.guard = none) (s x : Operand) (t : TypeId) (hop : o.op = Op.call { callee := Callee.builtin Builtin.append, args := #[s, x], argTypes := #[t, t] })
    (base : Nat) (e : TypeId) (size bytes : Nat) (ht : P.underlying t = some (.slice e)) (hi : ElemInfo P e size bytes) (hsz : 0 < size) (hby : 0 < bytes)
    (v : Value) (n : Nat) (xs : List Value) (HO : w.ownsRow base e size v n xs) (A : Option Addr) (m c : Nat) (news : List Value) (hs : a.eval s = v) (hx : a.eval x = .slice A m c) (hl : news.length = m * size) (hn : ReadsV w A news)
    (h1 : ∀ u ∈ news, u.oneCell' = true) (hb : (n + m) * bytes ≤ 140737488355328) (hbase : base ≤ w.heap.size)
    (h : ∀ v' w', Fact (w'.ownsRow base e size v' (n + m) (xs ++ news)) → Fact (w.grownBy w' v.ownBlock) → Fact (v'.ownBlock = v.ownBlock ∨ v'.ownBlock = some w.heap.size) → K (a.put o.dst v') w') :
    if Region.wanted o (yielded ops a.tmps) = true then Oper.wp P o a w K Q else E := by
  obtain ⟨v', w', hrun, r1, r2, r3⟩ := run_append_g (P := P) w base t o.type e size bytes ht hi hsz hby v n xs HO A m c news hl hn h1 hb hbase
  rw [if_pos (by simp [Region.wanted, hgd])]
  unfold Oper.wp
  simp [execOp, hop, resolve, invoke, builtin, hs, hx, hrun, Result.andThen]
  exact h _ _ ⟨r1⟩ ⟨r2⟩ ⟨r3⟩
theorem wpl_append (hgd : o.guard = none) (s x : Operand) (t : TypeId) (hop : o.op = Op.call { callee := Callee.builtin Builtin.append, args := #[s, x], argTypes := #[t, t] })
    (base : Nat) (e : TypeId) (size bytes : Nat) (ht : P.underlying t = some (.slice e)) (hi : ElemInfo P e size bytes) (hsz : 0 < size) (hby : 0 < bytes)
    (v : Value) (n : Nat) (xs : List Value) (HO : w.ownsRow base e size v n xs) (A : Option Addr) (m c : Nat) (news : List Value) (hs : a.eval s = v) (hx : a.eval x = .slice A m c) (hl : news.length = m * size) (hn : ReadsV w A news)
    (h1 : ∀ u ∈ news, u.oneCell' = true) (hb : (n + m) * bytes ≤ 140737488355328) (hbase : base ≤ w.heap.size)
    (h : ∀ v' w', Fact (w'.ownsRow base e size v' (n + m) (xs ++ news)) → Fact (w.grownBy w' v.ownBlock) → Fact (v'.ownBlock = v.ownBlock ∨ v'.ownBlock = some w.heap.size) → wpList P ops Q rest (a.put o.dst v') w') :
    wpList P ops Q (o :: rest) a w := by
  refine wpList_plain hgd fun K hK => ?_
  have := step_append (P := P) (ops := ops) (K := K) (Q := Q) (E := True) hgd s x t hop base e size bytes ht hi hsz hby v n xs HO A m c news hs hx hl hn h1 hb hbase (fun v' w' x y z => hK _ _ (h v' w' x y z))
  rwa [if_pos (by simp [Region.wanted, hgd])] at this
end
/-- What is owned is a slice that reads so. -/
theorem owns_reads {w : World} {base n size : Nat} {e : TypeId} {v : Value} {xs : List Value} (h : w.ownsRow base e size v n xs) : ∃ A c, v = .slice A n c ∧ n ≤ c ∧ ReadsV w A xs ∧ ∀ a, A = some a → base ≤ a.block ∧ a.block < w.heap.size := by
  rcases h.2 with ⟨rfl, rfl⟩ | ⟨g, cap, cur, rfl, hb, hh, hn, _, _, ht⟩
  · have hx : xs = [] := List.eq_nil_of_length_eq_zero (by simpa using h.1)
    subst hx
    exact ⟨none, 0, rfl, Nat.le_refl _, fun j u hu => by simp at hu, fun a e => by cases e⟩
  · refine ⟨_, cap, rfl, hn, ?_, ?_⟩
    · intro j u hu
      exact ⟨_, rfl, h.cells (g := g) rfl j u hu⟩
    · rintro a ha
      cases ha
      exact ⟨hb, lt_of_some hh⟩
theorem ReadsV.toInts {w : World} {k : IntKind} {A : Option Addr} {xs : List Int} (h : ReadsV w A (xs.map (Value.int k))) : Reads w k A xs := by
  intro i hi
  obtain ⟨a, e, hc⟩ := h i (.int k (xs.getD i 0)) (by simp [hi])
  exact ⟨a, e, hc⟩
theorem own_mod {S : Nat → Prop} {w w' : World} {base n size : Nat} {e : TypeId} {v : Value} {xs : List Value} (h : w.ownsRow base e size v n xs) (hm : Mod S w w') (hs : ∀ k, v.ownBlock = some k → ¬ S k) : w'.ownsRow base e size v n xs := by
  refine ⟨h.1, ?_⟩
  rcases h.2 with h2 | ⟨g, cap, cur, rfl, hb, hh, r⟩
  · exact .inl h2
  · exact .inr ⟨g, cap, cur, rfl, hb, (hm.block g (lt_of_some hh) (hs g rfl)).trans hh, r⟩
theorem own_lt' {w : World} {base n size : Nat} {e : TypeId} {v : Value} {xs : List Value} (h : w.ownsRow base e size v n xs) (k : Nat) (hk : v.ownBlock = some k) : k < w.heap.size := by
  rcases h.2 with ⟨rfl, _⟩ | ⟨g, cap, cur, rfl, _, hh, _⟩
  · simp [Value.ownBlock] at hk
  · have : g = k := by simpa [Value.ownBlock] using hk
    subst this
    exact lt_of_some hh
/-- A literal's row is owned. -/
theorem owns_lit {w : World} {base g n : Nat} {e : TypeId} {size : Nat} {cs : Array Value} (h : Blk w g cs e) (hb : base ≤ g) (hs : cs.size = n * size) (hm : n ≤ maxLen) : w.ownsRow base e size (.slice (some ⟨g, 0, none⟩) n n) n cs.toList := by
  refine ⟨by simpa using hs, .inr ⟨g, n, cs, rfl, hb, h, Nat.le_refl _, hm, hs, ?_⟩⟩
  rw [← hs, ← Array.length_toList, List.take_length]

/-! ### Rows of cells, as the walk's own words: read and stored at one step -/
/-- The n cells from a on. -/
def rowAt (w : World) (a : Addr) (n : Nat) : Array Value := (Array.range n).map fun i => (w.cell? (a.add i)).getD undef
/-- They are there. -/
def HasRow (w : World) (a : Addr) (n : Nat) : Prop := ∀ i, i < n → (w.cell? (a.add i)).isSome = true
theorem rowAt_size (w : World) (a : Addr) (n : Nat) : (rowAt w a n).size = n := by simp [rowAt]
theorem HasRow.of_blk {w : World} {b : Nat} {cs : Array Value} {t : TypeId} (h : Blk w b cs t) (off n : Nat) (hn : off + n ≤ cs.size) : HasRow w ⟨b, off, none⟩ n := by
  intro i hi
  rw [addr_add, h.cell]
  simp [show off + i < cs.size by omega]
theorem rowAt_blk {w : World} {b : Nat} {cs : Array Value} {t : TypeId} (h : Blk w b cs t) (off n : Nat) (hn : off + n ≤ cs.size) : rowAt w ⟨b, off, none⟩ n = cs.extract off (off + n) := by
  apply Array.ext_getElem?
  intro i
  simp only [rowAt, Array.getElem?_map]
  by_cases hi : i < n
  · rw [Array.getElem?_extract, if_pos (by omega)]
    simp [hi, addr_add, h.cell, show off + i < cs.size by omega]
  · rw [Array.getElem?_extract, if_neg (by omega)]
    simp [hi]
theorem rowAt_whole {w : World} {b : Nat} {cs : Array Value} {t : TypeId} (h : Blk w b cs t) (n : Nat) (hn : n = cs.size) : rowAt w ⟨b, 0, none⟩ n = cs := by
  rw [rowAt_blk h 0 n (by omega), hn]
  simp
theorem run_loadRow {P : Program} (w : World) (ty : TypeId) (d : TypeDesc) (a : Addr) (n : Nat) (hu : P.underlying ty = some d) (hd : isAggD d = true) (hi : (P.info? ty).map (·.size) = some n)
    (h : HasRow w a n) : (Instr.loadAt ty (.pointer (some a))).run P w = .ok (.agg (rowAt w a n)) w :=
  run_loadAgg w ty d a (rowAt w a n) hu hd (by rw [rowAt_size]; exact hi) (by
    intro j v hv
    simp only [rowAt, Array.getElem?_map] at hv
    by_cases hj : j < n
    · simp [hj] at hv
      have := h j hj
      cases hc : w.cell? (a.add j) with
      | none => simp [hc] at this
      | some u => simp [hc] at hv; rw [hv]
    · simp [hj] at hv)
@[go_sem] theorem rowAt_drew (w : World) (a : Addr) (n : Nat) : rowAt w.drew a n = rowAt w a n := rfl
@[go_sem] theorem rowAt_drewN (w : World) (a : Addr) (n k : Nat) : rowAt (w.drewN k) a n = rowAt w a n := rfl
@[go_sem] theorem hasRow_drew (w : World) (a : Addr) (n : Nat) : HasRow w.drew a n = HasRow w a n := propext ⟨fun h => h, fun h => h⟩
@[go_sem] theorem hasRow_drewN (w : World) (a : Addr) (n k : Nat) : HasRow (w.drewN k) a n = HasRow w a n := propext ⟨fun h => h, fun h => h⟩
@[go_sem] theorem rowAt_alloc (w : World) (o : Obj) (b off n : Nat) (h : b < w.heap.size) : rowAt (w.alloc o) ⟨b, off, none⟩ n = rowAt w ⟨b, off, none⟩ n := by
  unfold rowAt
  congr 1
  funext i
  rw [addr_add, World.cell?_alloc_lt w o _ h]
@[go_sem] theorem hasRow_alloc (w : World) (o : Obj) (b off n : Nat) (h : b < w.heap.size) : HasRow (w.alloc o) ⟨b, off, none⟩ n = HasRow w ⟨b, off, none⟩ n := by
  unfold HasRow
  apply propext
  constructor <;> intro k i hi <;> have := k i hi <;> rw [addr_add] at this ⊢ <;> rw [World.cell?_alloc_lt w o _ h] at * <;> exact this
@[go_sem] theorem rowAt_setCell (w : World) (b off n : Nat) (p : Addr) (v : Value) (h : ¬ p.block = b) : rowAt (w.setCell p v) ⟨b, off, none⟩ n = rowAt w ⟨b, off, none⟩ n := by
  unfold rowAt
  congr 1
  funext i
  rw [addr_add, World.cell?_setCell_other w p _ v (by rintro rfl; exact h rfl)]
@[go_sem] theorem hasRow_setCell (w : World) (b off n : Nat) (p : Addr) (v : Value) (h : ¬ p.block = b) : HasRow (w.setCell p v) ⟨b, off, none⟩ n = HasRow w ⟨b, off, none⟩ n := by
  unfold HasRow
  apply propext
  constructor <;> intro k i hi <;> have := k i hi <;> rw [addr_add] at this ⊢ <;> rw [World.cell?_setCell_other w p _ v (by rintro rfl; exact h rfl)] at * <;> exact this
/-- The cells from off on of a block, stored at one step. -/
def putRow (w : World) (b off : Nat) (cs : Array Value) : World :=
  match w.heap[b]? with
  | some (.cells cur _ _) => w.setRow b (aSplice cur off cs)
  | _ => w
/-- They are there, they may be written, and none of what comes is more than a cell. -/
def MayPut (w : World) (b off : Nat) (cs : Array Value) : Prop := ∃ cur t, Blk w b cur t ∧ off + cs.size ≤ cur.size ∧ ∀ v ∈ cs.toList, v.oneCell' = true
theorem run_storeRow {P : Program} (w : World) (ty : TypeId) (b off : Nat) (cs : Array Value) (hi : (P.info? ty).map (·.size) = some cs.size) (h : MayPut w b off cs) :
    (Instr.storeAt ty (.pointer (some ⟨b, off, none⟩)) (.agg cs)).run P w = .ok () (putRow w b off cs) := by
  obtain ⟨cur, t, hg, hfit, h1⟩ := h
  obtain ⟨i, hq, hs⟩ := Option.map_eq_some_iff.1 hi
  have hst := run_storeCells_at P b off t cs.toList 0 cur w hg (by simpa using hfit) h1
  simp only [Nat.add_zero, Array.length_toList] at hst
  have e : (cur.toList.take off ++ cs.toList ++ cur.toList.drop (off + cs.size)).toArray = aSplice cur off cs := by simp [aSplice, splice]
  rw [e] at hst
  have hp : putRow w b off cs = w.setRow b (aSplice cur off cs) := by unfold Blk at hg; simp [putRow, hg]
  rw [hp]
  simp [Instr.storeAt, Instr.sureAddr, storeVar, Value.cells, sizeOf, typeInfo, hq, hs, hst]
theorem blk_putRow {w : World} {b : Nat} {cur : Array Value} {t : TypeId} (h : Blk w b cur t) (off : Nat) (cs : Array Value) : Blk (putRow w b off cs) b (aSplice cur off cs) t := by
  have h' := h
  unfold Blk at h'
  simp only [putRow, h']
  exact blk_setRow h _
theorem mod_putRow (w : World) (b off : Nat) (cs : Array Value) : Mod (· = b) w (putRow w b off cs) := by
  unfold putRow
  split
  · exact mod_setRow _ _ _
  · exact Mod.refl _ _
@[go_sem] theorem size_putRow (w : World) (b off : Nat) (cs : Array Value) : (putRow w b off cs).heap.size = w.heap.size := by
  unfold putRow
  split
  · simp [World.setRow]
  · rfl
theorem heap_putRow (w : World) (b off : Nat) (cs : Array Value) (i : Nat) (h : ¬ i = b) : (putRow w b off cs).heap[i]? = w.heap[i]? := by
  unfold putRow
  split
  · exact setRow_other w b i _ (by omega)
  · rfl
@[go_sem] theorem cell?_putRow (w : World) (b off c o : Nat) (cs : Array Value) (h : ¬ c = b) : (putRow w b off cs).cell? ⟨c, o, none⟩ = w.cell? ⟨c, o, none⟩ :=
  World.cell?_of_block (heap_putRow w b off cs c h)
@[go_sem] theorem frozen?_putRow (w : World) (b off c o : Nat) (cs : Array Value) (h : ¬ c = b) : (putRow w b off cs).frozen? ⟨c, o, none⟩ = w.frozen? ⟨c, o, none⟩ :=
  World.frozen?_of_block (heap_putRow w b off cs c h)
@[go_sem] theorem putRow_drew (w : World) (b off : Nat) (cs : Array Value) : putRow w.drew b off cs = (putRow w b off cs).drew := by
  unfold putRow
  show (match w.heap[b]? with | some (.cells cur _ _) => w.drew.setRow b (aSplice cur off cs) | _ => w.drew) = _
  split <;> rfl
@[go_sem] theorem mayPut_drew (w : World) (b off : Nat) (cs : Array Value) : MayPut w.drew b off cs = MayPut w b off cs := propext ⟨fun h => h, fun h => h⟩

theorem mayPut_of {w : World} {b off : Nat} {cur cs : Array Value} {t : TypeId} (h : Blk w b cur t) (hf : off + cs.size ≤ cur.size) (h1 : ∀ v ∈ cs.toList, v.oneCell' = true) : MayPut w b off cs := ⟨cur, t, h, hf, h1⟩
@[go_sem] theorem mayPut_alloc (w : World) (o : Obj) (b off : Nat) (cs : Array Value) (h : b < w.heap.size) : MayPut (w.alloc o) b off cs = MayPut w b off cs := by
  unfold MayPut Blk
  rw [Below.heap_alloc w o b h]
@[go_sem] theorem mayPut_setCell (w : World) (p : Addr) (v : Value) (b off : Nat) (cs : Array Value) (h : ¬ b = p.block) : MayPut (w.setCell p v) b off cs = MayPut w b off cs := by
  unfold MayPut Blk
  rw [Below.heap_setCell w p v b h]
@[go_sem] theorem mayPut_new_nums (w : World) (n : Nat) (k : IntKind) (xs ys : List Int) (t : TypeId) (hn : n = w.heap.size) (h : ys.length ≤ xs.length) : MayPut (w.alloc (.cells (nums k xs) t)) n 0 (nums k ys) := by
  subst hn
  exact ⟨_, _, Blk.new w _ t, by simpa [nums_size] using h, nums_one k ys⟩
@[go_sem] theorem putRow_new (w : World) (n : Nat) (cs cs' : Array Value) (t : TypeId) (hn : n = w.heap.size) (h : cs'.size = cs.size) : putRow (w.alloc (.cells cs t)) n 0 cs' = w.alloc (.cells cs' t) := by
  subst hn
  have hb := Blk.new w cs t
  unfold Blk at hb
  simp only [putRow, hb, aSplice_whole _ _ h]
  simp only [World.setRow, World.alloc]
  congr 1
  apply Array.ext_getElem?
  intro i
  simp only [Array.getElem?_modify, Array.getElem?_push]
  by_cases hi : w.heap.size = i
  · subst hi; simp
  · simp [hi, show ¬ i = w.heap.size by omega]
@[go_sem] theorem rowAt_new (w : World) (n k : Nat) (cs : Array Value) (t : TypeId) (hn : n = w.heap.size) (h : k = cs.size) : rowAt (w.alloc (.cells cs t)) ⟨n, 0, none⟩ k = cs := by
  subst hn
  exact rowAt_whole (Blk.new w cs t) k h
@[go_sem] theorem hasRow_new (w : World) (n k : Nat) (cs : Array Value) (t : TypeId) (hn : n = w.heap.size) (h : k ≤ cs.size) : HasRow (w.alloc (.cells cs t)) ⟨n, 0, none⟩ k := by
  subst hn
  exact HasRow.of_blk (Blk.new w cs t) 0 k (by omega)
@[go_sem] theorem rowAt_putRow (w : World) (b off c o n : Nat) (cs : Array Value) (h : ¬ c = b) : rowAt (putRow w b off cs) ⟨c, o, none⟩ n = rowAt w ⟨c, o, none⟩ n := by
  unfold rowAt
  congr 1
  funext i
  rw [addr_add, cell?_putRow w b off c _ cs h]
@[go_sem] theorem hasRow_putRow (w : World) (b off c o n : Nat) (cs : Array Value) (h : ¬ c = b) : HasRow (putRow w b off cs) ⟨c, o, none⟩ n = HasRow w ⟨c, o, none⟩ n := by
  unfold HasRow
  apply propext
  constructor <;> intro k i hi <;> have := k i hi <;> rw [addr_add] at this ⊢ <;> rw [cell?_putRow w b off c _ cs h] at * <;> exact this
attribute [go_sem] nums_size zeros_length

/-! Whole operations, for the walk: at an aggregate's type nothing is laid open. -/
def ldRun (P : Program) (t : TypeId) (x : Value) (w : World) : Result Value := (Instr.loadAt t x).run P w
def stRun (P : Program) (t : TypeId) (x y : Value) (w : World) : Result Unit := (Instr.storeAt t x y).run P w
section
variable {P : Program} {dst : Option Tmp} {ty : TypeId} {pos : String} {after : Array Edge} {gd : Option (Nat × Bool)} {a : Act} {w : World} {K : Act → World → Prop} {Q : Exit → Act → World → Prop}
theorem wp_ld (t : TypeId) (x : Operand) : Oper.wp P ⟨dst, .load t x, ty, pos, after, gd⟩ a w K Q =
    Oper.upon P ⟨dst, .load t x, ty, pos, after, gd⟩ a K Q ((ldRun P t (a.eval x) w).andThen fun v w' => .ok (.value v) w') := by
  unfold Oper.wp ldRun
  congr 1
  simp only [execOp, Sem.run_bind, Sem.run_pure]
theorem wp_st (t : TypeId) (x y : Operand) : Oper.wp P ⟨dst, .store t x y, ty, pos, after, gd⟩ a w K Q =
    Oper.upon P ⟨dst, .store t x y, ty, pos, after, gd⟩ a K Q ((stRun P t (a.eval x) (a.eval y) w).andThen fun _ w' => .ok .skip w') := by
  unfold Oper.wp stRun
  congr 1
  simp only [execOp, Sem.run_bind, Sem.run_pure]
theorem wp_al (t : TypeId) (z : Array Value) (hz : (P.info? t).bind (fun i => i.zero.map Value.cells) = some z) : Oper.wp P ⟨dst, .alloc t, ty, pos, after, gd⟩ a w K Q =
    K (a.put dst (.pointer (some ⟨w.heap.size, 0, none⟩))) (w.alloc (.cells z t)) := by
  unfold Oper.wp
  simp only [execOp, Sem.run_bind, Sem.run_pure, run_allocAgg w t z hz, Result.andThen_ok, Oper.upon_value]
end

/-- Results of which the first lies in a cell. -/
theorem results_cell_tmp {P : Program} {fn : Func} {p u : Tmp} {ty : TypeId} (h : fn.results = #[.cell p ty, .tmp u]) (tmps : Array Value) (w : World) (a : Addr) (n : Nat) (d : TypeDesc)
    (hp : tmps.getD p undef = .pointer (some a)) (hu : P.underlying ty = some d) (hd : isAggD d = true) (hi : (P.info? ty).map (·.size) = some n) (hr : HasRow w a n) :
    (results fn tmps).run P w = .ok (.tuple #[.agg (rowAt w a n), tmps.getD u undef]) w := by
  have hl := run_loadRow w ty d a n hu hd hi hr
  simp only [Instr.loadAt, Instr.sureAddr, Sem.run_bind, Sem.run_pure, Result.andThen_ok] at hl
  have hp' : tmps[p]?.getD undef = .pointer (some a) := by simpa using hp
  simp [results, h, hp', asAddr, hl]

/-- '==' on two arrays of whole numbers. -/
theorem run_equalIn_nums {P : Program} (w : World) (d : Nat) (t e : TypeId) (len : Nat) (k k' : IntKind) (de : TypeDesc) (hde : de = .int k') (ht : P.underlying t = some (.array len e)) (he : P.underlying e = some de)
    (hs : (P.info? e).map (·.size) = some 1) (xs ys : List Int) (hx : xs.length = len) (hy : ys.length = len) :
    (Op.equalIn (d + 2) t (.agg (nums k xs)) (.agg (nums k ys))).run P w = .ok (decide (xs = ys)) w := by
  subst hde
  obtain ⟨i0, hi0, hs0⟩ := Option.map_eq_some_iff.1 hs
  have hagg : (isAgg e).run P w = .ok false w := by
    unfold isAgg
    rw [Sem.run_bind, run_underlying he w]
    simp
  have hpart : ∀ (zs : List Int) (j : Nat) (v : Int), zs[j]? = some v → (part e (nums k zs) (j * 1)).run P w = .ok (.int k v) w := by
    intro zs j v hv
    have : (nums k zs)[j * 1]? = some (.int k v) := by rw [nums_get, Nat.mul_one, hv]; rfl
    simp only [part, Sem.run_bind, hagg, Result.andThen_ok, Bool.false_eq_true, if_false, this, Sem.run_pure]
  rw [Op.equalIn]
  simp only [Sem.run_bind, run_underlying ht, Result.andThen_ok, sizeOf, typeInfo, run_program, hi0, Sem.run_pure, hs0]
  rw [Std.Legacy.Range.forIn_eq_forIn_range']
  simp only [Std.Legacy.Range.size, Nat.sub_zero, Nat.add_sub_cancel, Nat.div_one]
  have hl : 0 + len = xs.length := by omega
  have hl2 : ys.length = xs.length := by omega
  have hpre : ∀ i, i < 0 → xs[i]? = ys[i]? := fun i hi => absurd hi (by omega)
  clear hx hy ht
  generalize len = m at *
  generalize (0 : Nat) = j at *
  induction m generalizing j with
  | zero =>
    have : xs = ys := by
      apply List.ext_getElem?
      intro i
      rcases Nat.lt_or_ge i j with h | h
      · exact hpre i h
      · rw [List.getElem?_eq_none (by omega), List.getElem?_eq_none (by omega)]
    simp [this]
  | succ m ih =>
    have hjx : j < xs.length := by omega
    have hjy : j < ys.length := by omega
    rw [List.range'_succ]
    simp only [List.forIn_cons, Sem.run_bind, hpart xs j xs[j] (List.getElem?_eq_getElem hjx), hpart ys j ys[j] (List.getElem?_eq_getElem hjy), Result.andThen_ok, run_equalIn_int w d e k k' _ _ he]
    by_cases hne : xs[j] = ys[j]
    · have := ih (j + 1) (fun i hi => by
        rcases Nat.lt_or_ge i j with h | h
        · exact hpre i h
        · obtain rfl : i = j := by omega
          rw [List.getElem?_eq_getElem hjx, List.getElem?_eq_getElem hjy, hne]) (by omega)
      simpa [hne] using this
    · have hxy : ¬ xs = ys := by rintro rfl; exact hne rfl
      simp [hne, hxy]

end Go.Proofs.Ytcdjglkcblphlaa
