/- The walk of quote.Read, whole; quote.Simple is not reached. -/
import Derived.Test.YtfddjbojpgnfoaaGreatDoorQuoteA
set_option linter.unusedVariables false
set_option linter.unusedSimpArgs false
namespace Go.Proofs.YtfddjbojpgnfoaaGreatDoor
open Go.RowKit

set_option maxHeartbeats 8000000 in
set_option maxRecDepth 100000 in
theorem quote_Read (l : Bs) (hl : l.length < 4294967296) (G : Nat) (w : World) (he : Env G w) :
    Calls Tryz.prog 53 #[St l] w fun e w' => e = .returned (.tuple #[St (qread l).1, .int .i64 (qread l).2.1, Ft (qread l).2.2.1 (qread l).2.2.2]) ∧ Below w.heap.size w w' := by
  rcases l with _ | ⟨q, t⟩
  · clear hl he
    go_enter Tryz.func53, Tryz.ntmps53
    go_wp2_with fail
    have hd := blk_new w (.cells #[.int .i64 3, .int .i64 0] 28)
    have e0 := blk_cell hd 0
    have e1 := blk_cell hd 1
    exact bodyPost_ret (v := .tuple #[St [], .int .i64 0, Ft 3 0]) (by simp [results, Tryz.results53, go_sem, e0, e1]) rfl
      ⟨rfl, (Below.refl _ _).alloc (Nat.le_refl _) _⟩
  · by_cases hq : q = 39 ∨ q = 34
    · exact quote_Read_q q t hq (by simp at hl; omega) G w he
    · have hg : ∀ h, (⟨(q :: t).toArray⟩ : ByteArray)[0]'h = q := fun h => bs_get (q :: t) 0 (by simp) h
      have hR : Hid (qread (q :: t) = ([], 0, 3, 0)) := by show _ = _; simp only [qread]; rw [if_neg hq]
      have h1 : ((q.toNat : Int) != 39) = true := by rw [bne, show ((q.toNat : Int) == 39) = false from ne_u8 (n := 39) (by decide) (fun h => hq (.inl h))]; rfl
      have h2 : ((q.toNat : Int) != 34) = true := by rw [bne, show ((q.toNat : Int) == 34) = false from ne_u8 (n := 34) (by decide) (fun h => hq (.inr h))]; rfl
      rw [hR.out]
      clear hl he hq
      go_enter Tryz.func53, Tryz.ntmps53
      go_wp2_with fail
      have hd := blk_new w (.cells #[.int .i64 3, .int .i64 0] 28)
      have e0 := blk_cell hd 0
      have e1 := blk_cell hd 1
      exact bodyPost_ret (v := .tuple #[St [], .int .i64 0, Ft 3 0]) (by simp [results, Tryz.results53, go_sem, e0, e1]) rfl
        ⟨rfl, (Below.refl _ _).alloc (Nat.le_refl _) _⟩
end Go.Proofs.YtfddjbojpgnfoaaGreatDoor
