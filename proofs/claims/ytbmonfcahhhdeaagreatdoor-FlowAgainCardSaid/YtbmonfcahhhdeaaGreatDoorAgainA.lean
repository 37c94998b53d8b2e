/- The walks of flow.Whole at a text too long, and of flow.Write at a tree that may not be. -/
import Derived.Test.YtbmonfcahhhdeaaGreatDoorBlankA
import Derived.Test.YtbmonfcahhhdeaaGreatDoorFW8
set_option linter.unusedVariables false
set_option linter.unusedSimpArgs false
namespace Go.Proofs.YtbmonfcahhhdeaaGreatDoor
open Go.RowKit

set_option maxHeartbeats 4000000 in
theorem flow_Whole_long (s : Bs) (hs : 65536 < s.length) (w : World) :
    Calls Tryz.prog 13 #[St s] w fun e w' => e = .returned (.tuple #[.agg #[.int .i64 0, St [], St [], .slice none 0 0], Ft 5 0]) ∧ Below w.heap.size w w' := by
  obtain ⟨F, hF⟩ : ∃ F, w.heap.size = F := ⟨_, rfl⟩
  have hb2 : Below F w ((w.alloc (.cells #[.int .i64 0, St [], St [], .slice none 0 0] 24)).alloc (.cells #[.int .i64 0, .int .i64 0] 31)) := by rw [← hF]; exact ((Below.refl _ _).alloc (Nat.le_refl _) _).alloc (by simp) _
  have hz2 : ((w.alloc (.cells #[.int .i64 0, St [], St [], .slice none 0 0] 24)).alloc (.cells #[.int .i64 0, .int .i64 0] 31)).heap[F]? = some (.cells #[.int .i64 0, St [], St [], .slice none 0 0] 24) := by rw [← hF]; exact blk_alloc (blk_new _ _)
  have hq2 : ((w.alloc (.cells #[.int .i64 0, St [], St [], .slice none 0 0] 24)).alloc (.cells #[.int .i64 0, .int .i64 0] 31)).heap[F + 1]? = some (.cells #[.int .i64 0, .int .i64 0] 31) := by rw [← hF]; exact blk_new1 _ _ _
  obtain ⟨z0, z1, z2, z3, y0, y1, y2, y3⟩ := cells4 hz2
  obtain ⟨q0, q1, qf0, qf1⟩ := cells2 hq2
  have hlB : (s.length : Int) > 65536 := by omega
  have H2 := Lib.hid (And.intro hb2 (And.intro hz2 hq2))
  clear hb2 hz2 hq2
  go_enter Tryz.func13, Tryz.ntmps13
  go_wp2_with fail
  have hd : ((w.alloc (.cells #[.int .i64 0, St [], St [], .slice none 0 0] 24)).alloc (.cells #[.int .i64 5, .int .i64 0] 31)).heap[F]? = some (.cells #[.int .i64 0, St [], St [], .slice none 0 0] 24) := by rw [← hF]; exact blk_alloc (blk_new _ _)
  have hq : ((w.alloc (.cells #[.int .i64 0, St [], St [], .slice none 0 0] 24)).alloc (.cells #[.int .i64 5, .int .i64 0] 31)).heap[F + 1]? = some (.cells #[.int .i64 5, .int .i64 0] 31) := by rw [← hF]; exact blk_new1 _ _ _
  have e0 := blk_cell hd 0
  have e1 := blk_cell hd 1
  have e2 := blk_cell hd 2
  have e3 := blk_cell hd 3
  have e4 := blk_cell hq 0
  have e5 := blk_cell hq 1
  exact bodyPost_ret (v := .tuple #[.agg #[.int .i64 0, St [], St [], .slice none 0 0], Ft 5 0]) (by simp [results, Tryz.results13, go_sem, e0, e1, e2, e3, e4, e5]) rfl
    ⟨rfl, ((Below.refl _ _).alloc (Nat.le_refl _) _).alloc (by simp) _⟩
set_option maxHeartbeats 4000000 in
theorem flow_Write_ill (k : Int) (t a : Bs) (kids : List T) (A : Option Addr) (n cp : Nat) (hfit : Fit [.mk k t a kids]) (hR : (rightT (.mk k t a kids) 4096 0).1 = false) (G : Nat) (K : Nat → Prop) (w : World) (he : Env G w) (hK : ∀ b, K b → b < w.heap.size) (hr : See w K [.mk k t a kids] [.int .i64 k, St t, St a, .slice A n cp]) :
    Calls Tryz.prog 11 #[.agg #[.int .i64 k, St t, St a, .slice A n cp]] w fun e w' => e = .returned (.tuple #[St [], .int .i64 1]) ∧ Below w.heap.size w w' := by
  obtain ⟨F, hF⟩ : ∃ F, w.heap.size = F := ⟨_, rfl⟩
  have hG := he.le
  have hb1 : Below w.heap.size w (w.alloc (.cells #[.int .i64 k, St t, St a, .slice A n cp] 24)) := (Below.refl _ _).alloc (Nat.le_refl _) _
  have hx1 : (w.alloc (.cells #[.int .i64 k, St t, St a, .slice A n cp] 24)).heap[F]? = some (.cells #[.int .i64 k, St t, St a, .slice A n cp] 24) := by rw [← hF]; exact blk_new _ _
  have he1 := he.own hb1
  have hr1 := hr.under hb1
  have hRt := flow_Right k t a kids A n cp hfit G K _ he1 (fun b h => by have := hK b h; rw [World.size_alloc]; omega) hr1
  rw [hR] at hRt
  obtain ⟨x0, x1, x2, x3, y0, y1, y2, y3⟩ := cells4 hx1
  have H1 := Lib.hid hb1
  clear he hr hb1 hx1 he1 hr1 hR hfit
  go_enter Tryz.func11, Tryz.ntmps11
  go_wp2_with fail
  refine hRt.mono ?_
  rintro e w2 ⟨rfl, hb2⟩
  go_wp2_with fail
  go_ret2
  exact ⟨rfl, H1.out.trans (hb2.mono (by simp))⟩
end Go.Proofs.YtbmonfcahhhdeaaGreatDoor
