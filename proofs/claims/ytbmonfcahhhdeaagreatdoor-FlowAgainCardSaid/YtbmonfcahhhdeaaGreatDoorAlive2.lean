/- alive's plain law: what the models make of its text. The walk of alive. -/
import Derived.Test.YtbmonfcahhhdeaaGreatDoorFW8
import Derived.Test.YtbmonfcahhhdeaaGreatDoorFRdR
set_option linter.unusedVariables false
set_option linter.unusedSimpArgs false
namespace Go.Proofs.YtbmonfcahhhdeaaGreatDoor
open Go.RowKit

def aliveS : Bs := [38, 97, 32, 91, 49, 44, 32, 123, 98, 58, 32, 126, 125, 44, 32, 33, 33, 115, 116, 114, 32, 50, 93]
def aliveW : Bs := [38, 97, 32, 91, 49, 44, 32, 123, 98, 58, 32, 110, 117, 108, 108, 125, 44, 32, 34, 50, 34, 93]
def aliveK : List T := [.mk 3 [49] [] [], .mk 6 [] [] [.mk 4 [98] [] [], .mk 1 [] [] []], .mk 4 [50] [] []]
theorem alive_read : readM 6 aliveS false = some (.mk 5 [] [97] aliveK, 23, 0, 0) := by kernel_rfl
theorem alive_right : (rightT (.mk 5 [] [97] aliveK) 4096 0).1 = true := by kernel_rfl
theorem alive_put : putT (.mk 5 [] [97] aliveK) = aliveW := by kernel_rfl
theorem alive_fit : Fit [.mk 5 [] [97] aliveK] :=
  .cons _ _ _ _ _ (by decide) (by decide) (by decide) (.cons _ _ _ _ _ (by decide) (by decide) (by decide) .nil (.cons _ _ _ _ _ (by decide) (by decide) (by decide) (.cons _ _ _ _ _ (by decide) (by decide) (by decide) .nil (.cons _ _ _ _ _ (by decide) (by decide) (by decide) .nil .nil)) (.cons _ _ _ _ _ (by decide) (by decide) (by decide) .nil .nil))) .nil
end Go.Proofs.YtbmonfcahhhdeaaGreatDoor

namespace Go.Proofs.YtbmonfcahhhdeaaGreatDoor
open Go.RowKit

set_option maxHeartbeats 8000000 in
theorem law_alive (G : Nat) (w : World) (he : Env G w) :
    Calls Tryz.prog 10 #[] w fun e w' => e = .returned (.bool true) ∧ Below w.heap.size w w' := by
  obtain ⟨F, hF⟩ : ∃ F, w.heap.size = F := ⟨_, rfl⟩
  have hW := flow_Whole_ok 6 (by decide) aliveS (by decide) _ 23 alive_read (by decide) (by decide) rfl G w he
  have hWr := fun w' he' A n cp hr => flow_Write_ok 5 [] [97] aliveK A n cp alive_fit alive_right (by rw [alive_put]; decide) G (fun b => F ≤ b ∧ b < w'.heap.size) w' he' (fun b h => h.2) hr
  rw [alive_put] at hWr
  unfold aliveS at hW
  unfold aliveW at hWr
  have HE := Lib.hid he
  clear he
  go_enter Tryz.func10, Tryz.ntmps10
  go_wp2_with fail
  refine hW.mono ?_
  rintro e w1 ⟨⟨v, hr, rfl⟩, hb1⟩
  obtain ⟨A, c, rfl, hr1⟩ := hr.shape
  have hb3 : Below w1.heap.size w1 ((w1.alloc (.cells #[.int .i64 5, St [], St [97], .slice A 3 c] 24)).alloc (.cells #[.int .i64 0, .int .i64 0] 31)) := ((Below.refl _ _).alloc (Nat.le_refl _) _).alloc (by simp) _
  have hr3 := (hr1.under hb3).keep (K' := fun b => F ≤ b ∧ b < ((w1.alloc (.cells #[.int .i64 5, St [], St [97], .slice A 3 c] 24)).alloc (.cells #[.int .i64 0, .int .i64 0] 31)).heap.size) (fun _ _ _ => rfl) (fun b hb hK => ⟨by rw [← hF]; exact hK, hb⟩)
  obtain ⟨X, hX⟩ : ∃ X, w1.heap.size = X := ⟨_, rfl⟩
  have hx3 : ((w1.alloc (.cells #[.int .i64 5, St [], St [97], .slice A 3 c] 24)).alloc (.cells #[.int .i64 0, .int .i64 0] 31)).heap[X]? = some (.cells #[.int .i64 5, St [], St [97], .slice A 3 c] 24) := by rw [← hX]; exact blk_alloc (blk_new _ _)
  have hy3 : ((w1.alloc (.cells #[.int .i64 5, St [], St [97], .slice A 3 c] 24)).alloc (.cells #[.int .i64 0, .int .i64 0] 31)).heap[X + 1]? = some (.cells #[.int .i64 0, .int .i64 0] 31) := by rw [← hX]; exact blk_new1 _ _ _
  have he3 := (HE.out.own hb1).own hb3
  have hC := hWr _ he3 A 3 c hr3.see
  obtain ⟨x0, x1, x2, x3, y0, y1, y2, y3⟩ := cells4 hx3
  have hbz := hb1.size
  have H3 := Lib.hid (And.intro hb1 (And.intro hb3 (And.intro hr3 (And.intro hx3 hy3))))
  clear hr hr1 hb1 hb3 hr3 hx3 hy3 he3 hWr hW
  go_wp2_with fail
  refine hC.mono ?_
  rintro e w4 ⟨rfl, hb4⟩
  have hr4 := H3.out.2.2.1.under hb4
  have hx4 := blk_below H3.out.2.2.2.1 hb4 (blk_lt H3.out.2.2.2.1)
  have hy4 := blk_below H3.out.2.2.2.2 hb4 (blk_lt H3.out.2.2.2.2)
  obtain ⟨b1, A1, n1, c1, rfl, hc1, hr41⟩ := hr4.elem 1 rfl
  obtain ⟨b2, A2, n2, c2, hA2, hc2, _⟩ := hr41.elem 1 rfl
  obtain ⟨b3, A3, n3, c3, hA3, hc3, _⟩ := hr4.elem 2 rfl
  cases hA3
  have g3 : w4.cell? ⟨b1, 7, none⟩ = some (.slice A1 n1 c1) := hc1 3 (by decide)
  have g4 : w4.cell? ⟨b1, 8, none⟩ = some (.int .i64 4) := hc3 0 (by decide)
  have hn1 : n1 = 2 := by
    cases hr41 with | cons _ _ _ _ v xs ts ys base ho hv hk hr =>
      rcases ho.2 with ⟨h, h'⟩ | ⟨gg, cap, cur, h, _⟩
      · simp at h'
      · simp only [Value.slice.injEq] at h; exact h.2.1
  subst hn1 hA2
  have g5 : w4.cell? ⟨b2, 4, none⟩ = some (.int .i64 1) := hc2 0 (by decide)
  clear x0 x1 x2 x3 y0 y1 y2 y3
  obtain ⟨x0, x1, x2, x3, y0, y1, y2, y3⟩ := cells4 hx4
  obtain ⟨v0, v1, vf0, vf1⟩ := cells2 hy4
  have H4 := Lib.hid hb4
  clear hr4 hr41 hc1 hc2 hc3 hx4 hy4 hb4
  go_wp2_with fail
  go_ret
  refine ⟨rfl, ?_⟩
  exact (H3.out.1.trans (H3.out.2.1.mono (by omega))).trans (H4.out.mono (by have := H3.out.2.1.size; omega))
end Go.Proofs.YtbmonfcahhhdeaaGreatDoor
