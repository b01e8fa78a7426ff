/- A ledger of strikes in memory, and what it holds: no walk. -/
import Derived.Test.YtcdjglkcblphlaaProg
import Derived.Test.YtcdjglkcblphlaaBase
import Derived.Test.YtcdjglkcblphlaaMaps
import Derived.Test.YtcdjglkcblphlaaAppend
set_option linter.unusedVariables false
set_option linter.unusedSimpArgs false
namespace Go.Proofs.Ytcdjglkcblphlaa
open Go.RowKit

/-- A strike: by which number, whose, when, and whether it was taken back. -/
structure St where
  key : Int
  acc : Int
  time : Int
  cl : Bool
def St.val (s : St) : Value := .agg #[.int .i64 s.acc, .int .i64 s.time, .bool s.cl]
def findS (l : List St) (k : Int) : Option St := l.find? (fun s => s.key == k)
def clrS (l : List St) (k : Int) : List St := l.map (fun s => if s.key = k then { s with cl := true } else s)

/-- A map's entries hold these strikes. -/
structure Holds (E : List Ent) (mck : Nat) (l : List St) : Prop where
  same : E.map (fun e => (e.key, e.val)) = l.map (fun s => (s.key, s.val))
  born : ∀ e ∈ E, e.born < mck
  once : (E.map (·.born)).Nodup
  keys : KeysOnce E
  ok : ∀ s ∈ l, 0 ≤ s.acc ∧ s.acc < 8 ∧ 0 ≤ s.time ∧ s.time ≤ 1000000
namespace Holds
variable {E : List Ent} {mck : Nat} {l : List St}
theorem find_same : ∀ (E : List Ent) (l : List St), E.map (fun e => (e.key, e.val)) = l.map (fun s => (s.key, s.val)) → ∀ k, findE E k = (findS l k).map St.val
  | [], [], _, k => rfl
  | e :: E, s :: l, h, k => by
    simp only [List.map_cons, List.cons.injEq, Prod.mk.injEq] at h
    have ih := find_same E l h.2 k
    unfold findE findS at *
    simp only [List.find?_cons, h.1.1]
    split
    · simp [h.1.2]
    · exact ih
  | [], s :: l, h, _ => by simp at h
  | e :: E, [], h, _ => by simp at h
theorem find (h : Holds E mck l) (k : Int) : findE E k = (findS l k).map St.val := find_same E l h.same k
theorem keysS (h : Holds E mck l) : (l.map (·.key)).Nodup := by
  have := h.keys
  unfold KeysOnce at this
  have e : E.map (·.key) = l.map (·.key) := by
    have := congrArg (List.map Prod.fst) h.same
    simpa [List.map_map, Function.comp_def] using this
  rwa [← e]
theorem any_find (E : List Ent) (k : Int) : (E.any fun e => e.key == k) = (findE E k).isSome := by
  unfold findE
  induction E with
  | nil => rfl
  | cons e E ih =>
    simp only [List.any_cons, List.find?_cons]
    split
    · simp_all
    · rename_i h; rw [h, Bool.false_or]; exact ih
theorem nil : Holds [] 0 [] := ⟨rfl, by simp, by simp, by simp [KeysOnce], by simp⟩
theorem add (h : Holds E mck l) (s : St) (hf : findS l s.key = none) (hs : 0 ≤ s.acc ∧ s.acc < 8 ∧ 0 ≤ s.time ∧ s.time ≤ 1000000) :
    Holds (updE E s.key s.val mck) (updCk E s.key mck) (l ++ [s]) := by
  have ha : (E.any fun e => e.key == s.key) = false := by rw [any_find, h.find, hf]; rfl
  have e1 : updE E s.key s.val mck = E ++ [⟨s.key, s.val, mck⟩] := by unfold updE; rw [ha]; rfl
  have e2 : updCk E s.key mck = mck + 1 := by unfold updCk; rw [ha]; rfl
  rw [e1, e2]
  refine ⟨by simp [h.same], ?_, ?_, ?_, ?_⟩
  · intro e he
    rcases List.mem_append.1 he with he | he
    · have := h.born e he; omega
    · simp at he; subst he; simp
  · rw [List.map_append, List.nodup_append]
    refine ⟨h.once, by simp, ?_⟩
    intro a ha' b hb'
    simp at hb'
    obtain ⟨e, he, rfl⟩ := List.mem_map.1 ha'
    have := h.born e he; omega
  · unfold KeysOnce
    rw [List.map_append, List.nodup_append]
    refine ⟨h.keys, by simp, ?_⟩
    intro a ha' b hb'
    simp at hb'
    obtain ⟨e, he, rfl⟩ := List.mem_map.1 ha'
    have := List.any_eq_false.1 ha e he
    rw [hb']
    simpa using this
  · intro t ht
    rcases List.mem_append.1 ht with ht | ht
    · exact h.ok t ht
    · simp at ht; subst ht; exact hs
theorem mem_of_find {l : List St} {k : Int} {s : St} (h : findS l k = some s) : s ∈ l ∧ s.key = k := by
  unfold findS at h
  exact ⟨List.mem_of_find?_eq_some h, by simpa using List.find?_some h⟩
theorem eq_of_keys : ∀ (l : List St), (l.map (·.key)).Nodup → ∀ a ∈ l, ∀ b ∈ l, a.key = b.key → a = b
  | [], _, a, ha, _, _, _ => by simp at ha
  | x :: l, h, a, ha, b, hb, he => by
    simp only [List.map_cons, List.nodup_cons, List.mem_map, not_exists, not_and] at h
    rcases List.mem_cons.1 ha with rfl | ha' <;> rcases List.mem_cons.1 hb with rfl | hb'
    · rfl
    · exact absurd he.symm (h.1 b hb')
    · exact absurd he (h.1 a ha')
    · exact eq_of_keys l h.2 a ha' b hb' he
theorem upd_same (k : Int) (v : Value) (f : St → St) : ∀ (E : List Ent) (l : List St), E.map (fun e => (e.key, e.val)) = l.map (fun s => (s.key, s.val)) →
    (∀ s ∈ l, s.key = k → (f s).key = k ∧ (f s).val = v) → (E.map (fun e => if e.key == k then (⟨k, v, e.born⟩ : Ent) else e)).map (fun e => (e.key, e.val)) = (l.map (fun s => if s.key = k then f s else s)).map (fun s => (s.key, s.val))
  | [], [], _, _ => rfl
  | e :: E, s :: l, h, hv => by
    simp only [List.map_cons, List.cons.injEq, Prod.mk.injEq] at h
    have ih := upd_same k v f E l h.2 (fun s hs => hv s (List.mem_cons_of_mem _ hs))
    simp only [List.map_cons, List.cons.injEq]
    refine ⟨?_, ih⟩
    by_cases hk : s.key = k
    · have := hv s (by simp) hk
      simp [h.1.1, hk, this.1, this.2]
    · simp [h.1.1, hk, h.1.2]
  | [], s :: l, h, _ => by simp at h
  | e :: E, [], h, _ => by simp at h
theorem clr (h : Holds E mck l) (k : Int) (s : St) (hf : findS l k = some s) :
    Holds (updE E k ({ s with cl := true } : St).val mck) (updCk E k mck) (clrS l k) := by
  have ha : (E.any fun e => e.key == k) = true := by rw [any_find, h.find, hf]; rfl
  have e1 : updE E k ({ s with cl := true } : St).val mck = E.map (fun e => if e.key == k then (⟨k, ({ s with cl := true } : St).val, e.born⟩ : Ent) else e) := by unfold updE; rw [ha]; rfl
  have e2 : updCk E k mck = mck := by unfold updCk; rw [ha]; rfl
  have hb : (E.map (fun e => if e.key == k then (⟨k, ({ s with cl := true } : St).val, e.born⟩ : Ent) else e)).map (·.born) = E.map (·.born) := by
    rw [List.map_map]; apply List.map_congr_left; intro e _; simp only [Function.comp]; split <;> rfl
  have hk : (E.map (fun e => if e.key == k then (⟨k, ({ s with cl := true } : St).val, e.born⟩ : Ent) else e)).map (·.key) = E.map (·.key) := by
    rw [List.map_map]; apply List.map_congr_left; intro e _; simp only [Function.comp]; split
    · rename_i h; simpa using (by simpa using h : e.key = k).symm
    · rfl
  rw [e1, e2]
  refine ⟨?_, ?_, by rw [hb]; exact h.once, by unfold KeysOnce; rw [hk]; exact h.keys, ?_⟩
  · refine upd_same k _ (fun s => { s with cl := true }) E l h.same ?_
    intro t ht hk'
    obtain ⟨hs, hsk⟩ := mem_of_find hf
    have := eq_of_keys l h.keysS t ht s hs (by rw [hk', hsk])
    subst this
    exact ⟨hk', rfl⟩
  · intro e he
    have : e.born ∈ E.map (·.born) := by rw [← hb]; exact List.mem_map.2 ⟨e, he, rfl⟩
    obtain ⟨x, hx, hxe⟩ := List.mem_map.1 this
    rw [← hxe]; exact h.born x hx
  · intro t ht
    obtain ⟨s', hs', rfl⟩ := List.mem_map.1 ht
    have := h.ok s' hs'
    split <;> exact this
end Holds

/-- A ledger in memory. -/
structure LedIn (w : World) (F : Nat → Prop) (lb j lm d sb mb N many : Nat) (SU : List Int) (ck : Nat) (lv : Value) (xs : List Value) (E : List Ent) (mck : Nat) (l : List St) : Prop where
  led : Blk w lb #[.pointer (some ⟨j, 0, none⟩), .map (some lm)] 59
  jrn : JournalAt w j d sb mb N many SU ck lv xs
  map : MapBlk w lm (toEs E) mck
  hold : Holds E mck l
  ne : ¬ lm = mb
  foot : F lb ∧ F j ∧ F lm ∧ F d ∧ F sb ∧ F mb ∧ ∀ k, lv.ownBlock = some k → F k
  few : l.length ≤ many
  fits : many ≤ N
/-- A ledger at a block, all of it in F, on a disk of N sectors of which 'many' are taken, with the strikes l. -/
def Led (w : World) (F : Nat → Prop) (lb N many : Nat) (l : List St) : Prop := ∃ j lm d sb mb SU ck lv xs E mck, LedIn w F lb j lm d sb mb N many SU ck lv xs E mck l
theorem Led.mod {w w' : World} {F S : Nat → Prop} {lb N many : Nat} {l : List St} (h : Led w F lb N many l) (hm : Mod S w w') (hs : ∀ i, S i → i < w.heap.size → ¬ F i) : Led w' F lb N many l := by
  obtain ⟨j, lm, d, sb, mb, SU, ck, lv, xs, E, mck, hL⟩ := h
  obtain ⟨f1, f2, f3, f4, f5, f6, f7⟩ := hL.foot
  have hh : ∀ i, F i → i < w.heap.size → ¬ S i := fun i hf hi h => hs i h hi hf
  exact ⟨j, lm, d, sb, mb, SU, ck, lv, xs, E, mck, hL.led.mod hm (hh _ f1 hL.led.lt),
    ⟨hL.jrn.jrn.mod hm (hh _ f2 hL.jrn.jrn.lt), hL.jrn.dsk.mod hm (hh _ f4 hL.jrn.dsk.disk.lt) (hh _ f5 hL.jrn.dsk.sure.lt) (hh _ f6 hL.jrn.dsk.soon.lt),
      own_mod hL.jrn.own hm (fun k hk => by obtain ⟨cs, hc⟩ := JournalAt.own_blk hL.jrn.own k hk; exact hh _ (f7 k hk) hc.lt)⟩,
    hL.map.mod hm (hh _ f3 hL.map.lt), hL.hold, hL.ne, hL.foot, hL.few, hL.fits⟩
theorem Led.grow {w w' : World} {F : Nat → Prop} {lb N many : Nat} {l : List St} (h : Led w F lb N many l) (hm : Below w.heap.size w w') : Led w' F lb N many l :=
  h.mod (Mod.below hm) (fun i h1 h2 => by omega)
theorem Led.drew {w : World} {F : Nat → Prop} {lb N many : Nat} {l : List St} (h : Led w F lb N many l) : Led w.drew F lb N many l :=
  h.mod (S := fun _ => False) ((Mod.refl _ _).drew) (fun i h _ => h.elim)
theorem Led.drewN {w : World} {F : Nat → Prop} {lb N many n : Nat} {l : List St} (h : Led w F lb N many l) : Led (w.drewN n) F lb N many l :=
  h.mod (S := fun _ => False) ((Mod.refl _ _).drewN n) (fun i h _ => h.elim)
theorem Led.mono {w : World} {F G : Nat → Prop} {lb N many : Nat} {l : List St} (h : Led w F lb N many l) (hs : ∀ i, i < w.heap.size → F i → G i) : Led w G lb N many l := by
  obtain ⟨j, lm, d, sb, mb, SU, ck, lv, xs, E, mck, hL⟩ := h
  obtain ⟨f1, f2, f3, f4, f5, f6, f7⟩ := hL.foot
  exact ⟨j, lm, d, sb, mb, SU, ck, lv, xs, E, mck, hL.led, hL.jrn, hL.map, hL.hold, hL.ne,
    ⟨hs _ hL.led.lt f1, hs _ hL.jrn.jrn.lt f2, hs _ hL.map.lt f3, hs _ hL.jrn.dsk.disk.lt f4, hs _ hL.jrn.dsk.sure.lt f5, hs _ hL.jrn.dsk.soon.lt f6, fun k hk => by obtain ⟨cs, hc⟩ := JournalAt.own_blk hL.jrn.own k hk; exact hs _ hc.lt (f7 k hk)⟩, hL.few, hL.fits⟩
end Go.Proofs.Ytcdjglkcblphlaa
