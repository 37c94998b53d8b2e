/- The walks of package flow's reader: wrongAs. -/
import Derived.Test.YtfddjbojpgnfoaaGreatDoorFRd2
set_option linter.unusedVariables false
set_option linter.unusedSimpArgs false
namespace Go.Proofs.YtfddjbojpgnfoaaGreatDoor
open Go.RowKit

set_option maxHeartbeats 4000000 in
theorem frd_wrongAs (g : Nat) (r : FRd) (e a : Int) (ha0 : 0 ≤ a) (ha : a ≤ 140737488355328) (w : World) (h : r.At w g) (ok : r.Ok) :
    Calls Tryz.prog 54 #[.pointer (some ⟨g, 0, none⟩), Ft e a] w fun x w' => x = .returned (.tuple #[]) ∧ (r.wrongAs e a).At w' g ∧ Fr (· = g) w.heap.size w w' := by
  by_cases hz : e = 0 ∧ a = 0
  · obtain ⟨rfl, rfl⟩ := hz
    have hA : (r.wrongAs 0 0).At (w.alloc (.cells #[.int .i64 0, .int .i64 0] 28)) g := blk_alloc h
    have HA := Lib.hid hA
    clear hA
    go_enter Tryz.func54, Tryz.ntmps54
    go_wp2_with fail
    go_end0
    exact ⟨rfl, HA.out, below_fr' ((Below.refl _ _).alloc (Nat.le_refl _) _)⟩
  · have hR : r.wrongAs e a = r.wrong e (r.pos + a) := by unfold FRd.wrongAs; rw [if_neg hz]
    rw [hR]
    have hA1 : r.At (w.alloc (.cells #[.int .i64 e, .int .i64 a] 28)) g := blk_alloc h
    have o1 := ok.len
    have o2 := ok.hi
    have hwr : IntKind.i64.wrap (r.pos + a) = r.pos + a := by rw [IntKind.wrap_i64]; unfold FRd.pos; omega
    have hcase : ¬ e = 0 ∨ (e = 0 ∧ ¬ a = 0) := by
      by_cases h1 : e = 0
      · exact .inr ⟨h1, fun h2 => hz ⟨h1, h2⟩⟩
      · exact .inl h1
    have HAT := fun w' h' => frd_at g r w' h' ok
    have hf0 : ∀ m, Fr (· = g) w.heap.size w ((w.alloc (.cells #[.int .i64 e, .int .i64 a] 28)).drewN m) := fun m => below_fr' (below_drewN' ((Below.refl _ _).alloc (Nat.le_refl _) _) m)
    clear ha0 ha o1 o2 hR hz
    generalize hp : r.pos + a = p at hwr
    rcases hcase with h1 | ⟨rfl, h1⟩
    · have hfr := fun w' h' => frd_wrong g r e p w' h'
      go_enter Tryz.func54, Tryz.ntmps54
      go_wp2_with fail
      go_region_with (first | (go_at_call 17; refine (HAT _ (by exact hA1)).mono ?_; rintro x w2 ⟨rfl, n, rfl⟩) | (go_at_call 33; refine (hfr _ (by exact hA1)).mono ?_; rintro x w3 ⟨rfl, h3, fr3⟩))
      all_goals
        go_wp2_with fail
        go_end0
        exact ⟨rfl, h3, (hf0 _).call fr3 (by show w.heap.size ≤ (w.alloc _).heap.size; simp) (fun _ _ h => h)⟩
    · have hfr := fun w' h' => frd_wrong g r 0 p w' h'
      go_enter Tryz.func54, Tryz.ntmps54
      go_wp2_with fail
      go_region_with (first | (go_at_call 17; refine (HAT _ (by exact hA1)).mono ?_; rintro x w2 ⟨rfl, n, rfl⟩) | (go_at_call 33; refine (hfr _ (by exact hA1)).mono ?_; rintro x w3 ⟨rfl, h3, fr3⟩))
      all_goals
        go_wp2_with fail
        go_end0
        exact ⟨rfl, h3, (hf0 _).call fr3 (by show w.heap.size ≤ (w.alloc _).heap.size; simp) (fun _ _ h => h)⟩
end Go.Proofs.YtfddjbojpgnfoaaGreatDoor
