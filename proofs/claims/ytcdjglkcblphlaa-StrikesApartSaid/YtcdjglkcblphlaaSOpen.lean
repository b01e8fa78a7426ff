/- strikes.Open of a journal without records, walked. -/
import Derived.Test.YtcdjglkcblphlaaProg
import Derived.Test.YtcdjglkcblphlaaBase
import Derived.Test.YtcdjglkcblphlaaBaseIn
import Derived.Test.YtcdjglkcblphlaaJOpen
set_option linter.unusedVariables false
set_option linter.unusedSimpArgs false
namespace Go.Proofs.Ytcdjglkcblphlaa
open Go.RowKit Go.Shelf
attribute [local go_sem] Oper.semAt_some

/-- Nothing comes. -/
def encN (x : Empty) : Array Value := x.elim

theorem all1_none (j : Nat) (c0 c2 c3 : Value) (bx : Nat) (w : World) (hbx : Blk w bx #[.pointer (some ⟨j, 0, none⟩)] 28) (hJ0 : Blk w j #[c0, .int .i64 0, c2, c3] 68) (Kp : World → World → Prop) :
    SeqStopsK Fence.wide 3 Try.prog 24 #[.pointer (some ⟨bx, 0, none⟩)] encN Kp (fun _ => True) (fun _ => True) 0 w := by
  intro l J Jx W hW hJ hJx hY h0
  have c0 := (hbx.below hW hbx.lt).cell 0
  have c1 := (hJ0.below hW hJ0.lt).cell 1
  have HJ := Fact.mk h0
  clear h0
  refine callsIn_of_wp Try.func24 rfl trivial ?_ rfl
  simp only [Try.ntmps24, List.size_toArray, List.length_cons, List.length_nil, Nat.reduceAdd, Nat.reduceSub, Array.replicate_succ, Array.replicate_zero, List.push_toArray, List.append_toArray, List.nil_append, List.cons_append]
  gi_wp2
  refine wpIn_loop_rounds 1 ?_
  rw [roundsIn_succ]
  gi_wp2
  go_end0
  exact ⟨⟨_, rfl⟩, .inl ⟨[], trivial, HJ.out⟩⟩

theorem all_ok (j : Nat) (w : World) (g : Nat) (hg : w.heap.size = g) :
    Calls Try.prog 18 #[.pointer (some ⟨j, 0, none⟩)] w fun e w' => e = .returned (.func (.func 24) #[] #[.pointer (some ⟨g, 0, none⟩)]) ∧ w' = w.alloc (.cells #[.pointer (some ⟨j, 0, none⟩)] 28) := by
  go_enter Try.func18, Try.ntmps18
  go_wp2
  go_ret
  exact ⟨rfl, rfl⟩

set_option maxHeartbeats 1000000 in
theorem sopen_none (j : Nat) (c0 c2 c3 : Value) (w : World) (g : Nat) (hg : w.heap.size = g) (hJ0 : Blk w j #[c0, .int .i64 0, c2, c3] 68) :
    Calls Try.prog 14 #[.pointer (some ⟨j, 0, none⟩)] w fun e w' => e = .returned (.tuple #[.pointer (some ⟨g + 1, 0, none⟩), .int .i64 0]) ∧
      Blk w' (g + 1) #[.pointer (some ⟨j, 0, none⟩), .map (some g)] 59 ∧ MapBlk w' g #[] 0 ∧ Below g w w' := by
  have h1 : 1 ≤ 4 := by omega
  have hmm := @run_makeMap Try.prog
  refine (callsIn_wide (n := 4)).1 ?_
  refine callsIn_of_wp_marks Try.func14 rfl trivial ?_ rfl
  simp only [Try.ntmps14, List.size_toArray, List.length_cons, List.length_nil, Nat.reduceAdd, Nat.reduceSub, Array.replicate_succ, Array.replicate_zero, List.push_toArray, List.append_toArray, List.nil_append, List.cons_append]
  gi_wp2_with fail
  refine ⟨trivial, ?_⟩
  refine (callsIn_wide.2 (all_ok j _ (g + 3) (by simp; omega))).mono ?_
  rintro e w1 ⟨rfl, rfl⟩
  gi_wp2_with fail
  have bM : MapBlk ((((w.alloc (.map #[] 0)).alloc (.cells #[.pointer (some ⟨j, 0, none⟩), .map (some g)] 59)).alloc (.cells #[.pointer (some ⟨g + 1, 0, none⟩)] 29)).alloc (.cells #[.pointer (some ⟨j, 0, none⟩)] 28)) g #[] 0 :=
    (((MapBlk.new' w g #[] 0 hg.symm).alloc _).alloc _).alloc _
  have bL : Blk ((((w.alloc (.map #[] 0)).alloc (.cells #[.pointer (some ⟨j, 0, none⟩), .map (some g)] 59)).alloc (.cells #[.pointer (some ⟨g + 1, 0, none⟩)] 29)).alloc (.cells #[.pointer (some ⟨j, 0, none⟩)] 28)) (g + 1) #[.pointer (some ⟨j, 0, none⟩), .map (some g)] 59 :=
    ((Blk.new' _ (g + 1) _ _ (by simp; omega)).alloc _).alloc _
  have bV : Blk ((((w.alloc (.map #[] 0)).alloc (.cells #[.pointer (some ⟨j, 0, none⟩), .map (some g)] 59)).alloc (.cells #[.pointer (some ⟨g + 1, 0, none⟩)] 29)).alloc (.cells #[.pointer (some ⟨j, 0, none⟩)] 28)) (g + 1 + 1) #[.pointer (some ⟨g + 1, 0, none⟩)] 29 :=
    (Blk.new' _ (g + 1 + 1) _ _ (by simp; omega)).alloc _
  have bX : Blk ((((w.alloc (.map #[] 0)).alloc (.cells #[.pointer (some ⟨j, 0, none⟩), .map (some g)] 59)).alloc (.cells #[.pointer (some ⟨g + 1, 0, none⟩)] 29)).alloc (.cells #[.pointer (some ⟨j, 0, none⟩)] 28)) (g + 3) #[.pointer (some ⟨j, 0, none⟩)] 28 :=
    Blk.new' _ (g + 3) _ _ (by simp; omega)
  have bJ := (((hJ0.alloc (.map #[] 0)).alloc (.cells #[.pointer (some ⟨j, 0, none⟩), .map (some g)] 59)).alloc (.cells #[.pointer (some ⟨g + 1, 0, none⟩)] 29)).alloc (.cells #[.pointer (some ⟨j, 0, none⟩)] 28)
  have B0 : Below g w ((((w.alloc (.map #[] 0)).alloc (.cells #[.pointer (some ⟨j, 0, none⟩), .map (some g)] 59)).alloc (.cells #[.pointer (some ⟨g + 1, 0, none⟩)] 29)).alloc (.cells #[.pointer (some ⟨j, 0, none⟩)] 28)) :=
    ((((Below.refl _ _).alloc (by omega) _).alloc (by simp; omega) _).alloc (by simp; omega) _).alloc (by simp; omega) _
  have Z0 : ((((w.alloc (.map #[] 0)).alloc (.cells #[.pointer (some ⟨j, 0, none⟩), .map (some g)] 59)).alloc (.cells #[.pointer (some ⟨g + 1, 0, none⟩)] 29)).alloc (.cells #[.pointer (some ⟨j, 0, none⟩)] 28)).heap.size = g + 4 := by simp; omega
  generalize (((w.alloc (.map #[] 0)).alloc (.cells #[.pointer (some ⟨j, 0, none⟩), .map (some g)] 59)).alloc (.cells #[.pointer (some ⟨g + 1, 0, none⟩)] 29)).alloc (.cells #[.pointer (some ⟨j, 0, none⟩)] 28) = w0 at *
  refine wpIn_rangeFunc_ownG (α := Empty) (F := Fence.wide) (n := 4) (Kp := fun _ _ => True) rfl h1 (gf := 24) (lb := #[.pointer (some ⟨g + 3, 0, none⟩)]) rfl trivial (enters_of Try.func24 (by kernel_rfl) rfl)
    (all1_none j c0 c2 c3 (g + 3) w0 bX bJ _) (fun _ _ => trivial) (fun _ _ _ _ _ _ _ _ => trivial) (Below.refl _ _) (fun x => x.elim)
    (fun pre W => Fact (MapBlk W g #[] 0 ∧ Blk W (g + 1) #[.pointer (some ⟨j, 0, none⟩), .map (some g)] 59 ∧ Blk W (g + 1 + 1) #[.pointer (some ⟨g + 1, 0, none⟩)] 29 ∧ Below g w W ∧ g + 4 ≤ W.heap.size))
    (fun _ _ _ => False)
    (fun pre A B row h hg' hr => ⟨(hg'.block g h.out.1.lt (fun e => by have := (hr g e.symm).1; omega)).trans h.out.1, h.out.2.1.grownFrom hg' (B := g + 4) (fun r e => by have := (hr r e).1; omega) (by omega), h.out.2.2.1.grownFrom hg' (B := g + 4) (fun r e => by have := (hr r e).1; omega) (by omega),
      below_grownFrom h.out.2.2.2.1 hg' (B := g + 4) (fun r e => by have := (hr r e).1; omega) (by omega) (by have := h.out.2.2.2.2; omega), Nat.le_trans h.out.2.2.2.2 hg'.size⟩)
    (fun _ _ _ _ _ hs _ _ => hs)
    ⟨bM, bL, bV, B0, by omega⟩ (fun x => x.elim) (fun _ x => x.elim) (fun _ _ x => x.elim) ?done (fun _ _ _ _ _ _ h _ => h.elim)
  case done =>
    intro D xs W hD _ hI hK
    have cV := hI.out.2.2.1.cell 0
    gi_wp2
    refine ⟨by simp, .inl ⟨_, _, rfl, run_takeDeferred hK, ?_⟩⟩
    have hDg : g + 4 ≤ D := by omega
    exact ⟨_, results_tmp2 rfl _ _ _, rfl, hI.out.2.1.mod (mod_putObj (S := (· = D)) _ D _ rfl) (by omega), hI.out.1.mod (mod_putObj (S := (· = D)) _ D _ rfl) (by omega), hI.out.2.2.2.1.trans ((mod_putObj (S := (· = D)) _ D _ rfl).toBelow (by have := hI.out.2.2.2.2; omega) (by intro i h; omega))⟩
end Go.Proofs.Ytcdjglkcblphlaa
