/- right's contract; the walk of flow.Right. -/
import Derived.Test.YtbmonfcahhhdeaaGreatDoorFW5
set_option linter.unusedVariables false
set_option linter.unusedSimpArgs false
namespace Go.Proofs.YtbmonfcahhhdeaaGreatDoor
open Go.RowKit

theorem right_spec : ∀ m, RightSpec m
  | 0 => fun _ _ _ _ _ _ _ h => by omega
  | m + 1 => right_step m (right_loop m (right_spec m))

set_option maxHeartbeats 4000000 in
theorem flow_Right (k : Int) (t a : Bs) (kids : List T) (A : Option Addr) (n cp : Nat) (hfit : Fit [.mk k t a kids]) (G : Nat) (K : Nat → Prop) (w : World) (he : Env G w) (hK : ∀ b, K b → b < w.heap.size) (hr : See w K [.mk k t a kids] [.int .i64 k, St t, St a, .slice A n cp]) :
    Calls Tryz.prog 12 #[.agg #[.int .i64 k, St t, St a, .slice A n cp]] w fun e w' => e = .returned (.bool (rightT (.mk k t a kids) 4096 0).1) ∧ Below w.heap.size w w' := by
  obtain ⟨F, hF⟩ : ∃ F, w.heap.size = F := ⟨_, rfl⟩
  have hG := he.le
  have hb2 : Below F w ((w.alloc (.cells #[.int .i64 k, St t, St a, .slice A n cp] 24)).alloc (.cells #[.int .i64 4096] 55)) := by rw [← hF]; exact ((Below.refl _ _).alloc (Nat.le_refl _) _).alloc (by simp) _
  have hc2 : ((w.alloc (.cells #[.int .i64 k, St t, St a, .slice A n cp] 24)).alloc (.cells #[.int .i64 4096] 55)).heap[F + 1]? = some (.cells #[.int .i64 4096] 55) := by rw [← hF]; exact blk_new1 _ _ _
  have hx2 : ((w.alloc (.cells #[.int .i64 k, St t, St a, .slice A n cp] 24)).alloc (.cells #[.int .i64 4096] 55)).heap[F]? = some (.cells #[.int .i64 k, St t, St a, .slice A n cp] 24) := by rw [← hF]; exact blk_alloc (blk_new _ _)
  have he2 := he.below hb2 (by omega)
  have hr2 := hr.under (by rw [hF]; exact hb2)
  have hC := right_spec _ k t a kids A n cp (Nat.lt_succ_self _) hfit (F + 1) 4096 0 G K _ (by decide) (by decide) (by decide) (by decide) he2 (by omega) (fun h => by have := hK _ h; omega) hc2 hr2
  obtain ⟨x0, x1, x2, x3, y0, y1, y2, y3⟩ := cells4 hx2
  have HB := Lib.hid hb2
  generalize rightT (.mk k t a kids) 4096 0 = R at hC ⊢
  clear he hr hr2 he2 hc2 hx2 hb2
  go_enter Tryz.func12, Tryz.ntmps12
  go_wp2_with fail
  refine hC.mono ?_
  rintro e w3 ⟨rfl, h1, h2, h3, f3⟩
  go_wp2_with fail
  go_ret
  exact ⟨rfl, by rw [hF]; exact HB.out.trans ((f3.mono (S' := (· = F + 1)) (B' := F) (by simp; omega) (fun _ _ h => h)).toBelow (fun k hk h => by omega))⟩
end Go.Proofs.YtbmonfcahhhdeaaGreatDoor
