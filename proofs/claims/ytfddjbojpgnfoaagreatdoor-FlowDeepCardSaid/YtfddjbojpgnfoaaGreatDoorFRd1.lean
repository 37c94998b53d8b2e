/- The walks of package flow's reader: its small methods, each with what it turns in the reader's block. -/
import Derived.Test.YtfddjbojpgnfoaaGreatDoorLib
import Derived.Test.YtfddjbojpgnfoaaGreatDoorProg
set_option linter.unusedVariables false
set_option linter.unusedSimpArgs false
namespace Go.Proofs.YtfddjbojpgnfoaaGreatDoor
open Go.RowKit

/-- flow's reader. -/
structure FRd where
  whole : Int
  s : Bs
  why : Int
  at_ : Int

abbrev FRd.cells (r : FRd) : Array Value := #[.int .i64 r.whole, St r.s, .int .i64 r.why, .int .i64 r.at_]
/-- The reader stands in block g. -/
def FRd.At (r : FRd) (w : World) (g : Nat) : Prop := w.heap[g]? = some (.cells r.cells 48)
structure FRd.Ok (r : FRd) : Prop where
  len : (r.s.length : Int) ≤ r.whole
  hi : r.whole ≤ 140737488355328
def FRd.well (r : FRd) : Bool := decide (r.why = 0) && decide (r.at_ = 0)
def FRd.pos (r : FRd) : Int := r.whole - r.s.length
def FRd.wrong (r : FRd) (e a : Int) : FRd := if r.well then { r with why := e, at_ := a } else r
def FRd.stray (r : FRd) : FRd := (if r.s.isEmpty then r.wrong 4 r.whole else r).wrong 3 r.pos

theorem FRd.At.parts {r : FRd} {w : World} {g : Nat} (h : r.At w g) :
    w.cell? ⟨g, 0, none⟩ = some (.int .i64 r.whole) ∧ w.cell? ⟨g, 1, none⟩ = some (St r.s) ∧ w.cell? ⟨g, 2, none⟩ = some (.int .i64 r.why) ∧ w.cell? ⟨g, 3, none⟩ = some (.int .i64 r.at_) ∧
      w.frozen? ⟨g, 0, none⟩ = false ∧ w.frozen? ⟨g, 1, none⟩ = false ∧ w.frozen? ⟨g, 2, none⟩ = false ∧ w.frozen? ⟨g, 3, none⟩ = false := cells4 h
theorem FRd.At.set1 {r : FRd} {w : World} {g : Nat} (h : r.At w g) (s : Bs) : ({ r with s := s } : FRd).At (w.setCell ⟨g, 1, none⟩ (St s)) g := blk_set h
theorem FRd.At.set23 {r : FRd} {w : World} {g : Nat} (h : r.At w g) (y a : Int) : ({ r with why := y, at_ := a } : FRd).At ((w.setCell ⟨g, 2, none⟩ (.int .i64 y)).setCell ⟨g, 3, none⟩ (.int .i64 a)) g := blk_set (blk_set h)

set_option maxHeartbeats 400000 in
theorem frd_well (g : Nat) (r : FRd) (w : World) (h : r.At w g) :
    Calls Tryz.prog 15 #[.pointer (some ⟨g, 0, none⟩)] w fun e w' => e = .returned (.bool r.well) ∧ w' = w := by
  obtain ⟨c0, c1, c2, c3, f0, f1, f2, f3⟩ := h.parts
  by_cases h1 : r.why = 0 <;> by_cases h2 : r.at_ = 0
  all_goals
    go_enter Tryz.func15, Tryz.ntmps15
    go_wp2_with fail
    go_ret
    exact ⟨by simp [FRd.well, h1, h2], rfl⟩

set_option maxHeartbeats 400000 in
theorem frd_at (g : Nat) (r : FRd) (w : World) (h : r.At w g) (ok : r.Ok) :
    Calls Tryz.prog 17 #[.pointer (some ⟨g, 0, none⟩)] w fun e w' => e = .returned (.int .i64 r.pos) ∧ ∃ n, w' = w.drewN n := by
  obtain ⟨c0, c1, c2, c3, f0, f1, f2, f3⟩ := h.parts
  have o1 := ok.len
  have o2 := ok.hi
  go_enter Tryz.func17, Tryz.ntmps17
  go_wp2_with fail
  go_quiet (fail)
  go_wp2
  go_ret
  exact ⟨rfl, _, rfl⟩

set_option maxHeartbeats 400000 in
theorem frd_wrong (g : Nat) (r : FRd) (e a : Int) (w : World) (h : r.At w g) :
    Calls Tryz.prog 33 #[.pointer (some ⟨g, 0, none⟩), .int .i64 e, .int .i64 a] w fun x w' => x = .returned (.tuple #[]) ∧ (r.wrong e a).At w' g ∧ Fr (· = g) w.heap.size w w' := by
  obtain ⟨c0, c1, c2, c3, f0, f1, f2, f3⟩ := h.parts
  have hw := frd_well g r w h
  cases hb : r.well
  all_goals
    rw [hb] at hw
    go_enter Tryz.func33, Tryz.ntmps33
    go_wp2_with fail
    refine hw.mono ?_
    rintro x w' ⟨rfl, rfl⟩
    go_wp2_with fail
    go_end0
  · refine ⟨rfl, ?_, Fr.refl _ _ _⟩
    simp only [FRd.wrong, hb]
    exact h
  · refine ⟨rfl, ?_, ((Fr.refl _ _ _).own _ _).own _ _⟩
    simp only [FRd.wrong, hb]
    exact h.set23 e a

theorem FRd.wrong_s (r : FRd) (e a : Int) : (r.wrong e a).s = r.s := by unfold FRd.wrong; split <;> rfl
theorem FRd.wrong_whole (r : FRd) (e a : Int) : (r.wrong e a).whole = r.whole := by unfold FRd.wrong; split <;> rfl
theorem FRd.wrong_ok {r : FRd} (ok : r.Ok) (e a : Int) : (r.wrong e a).Ok := ⟨by rw [FRd.wrong_s, FRd.wrong_whole]; exact ok.len, by rw [FRd.wrong_whole]; exact ok.hi⟩
theorem FRd.wrong_pos (r : FRd) (e a : Int) : (r.wrong e a).pos = r.pos := by unfold FRd.pos; rw [FRd.wrong_s, FRd.wrong_whole]
theorem FRd.stray_s (r : FRd) : r.stray.s = r.s := by unfold FRd.stray; split <;> simp [FRd.wrong_s]
theorem FRd.stray_whole (r : FRd) : r.stray.whole = r.whole := by unfold FRd.stray; split <;> simp [FRd.wrong_whole]
theorem FRd.stray_ok {r : FRd} (ok : r.Ok) : r.stray.Ok := ⟨by rw [FRd.stray_s, FRd.stray_whole]; exact ok.len, by rw [FRd.stray_whole]; exact ok.hi⟩

set_option maxHeartbeats 400000 in
theorem frd_stray (g : Nat) (r : FRd) (w : World) (h : r.At w g) (ok : r.Ok) :
    Calls Tryz.prog 29 #[.pointer (some ⟨g, 0, none⟩)] w fun x w' => x = .returned (.tuple #[]) ∧ r.stray.At w' g ∧ Fr (· = g) w.heap.size w w' := by
  obtain ⟨c0, c1, c2, c3, f0, f1, f2, f3⟩ := h.parts
  cases hs : r.s with
  | nil =>
    have hst : r.stray = (r.wrong 4 r.whole).wrong 3 r.pos := by unfold FRd.stray; rw [hs]; rfl
    rw [hst]
    rw [hs] at c1
    go_enter Tryz.func29, Tryz.ntmps29
    go_wp2_with fail
    refine (frd_wrong g r 4 r.whole _ h).mono ?_
    rintro x w1 ⟨rfl, h1, fr1⟩
    go_wp2_with fail
    refine (frd_at g _ _ h1 (FRd.wrong_ok ok _ _)).mono ?_
    rintro x w2 ⟨rfl, n, rfl⟩
    rw [FRd.wrong_pos]
    go_wp2_with fail
    refine (frd_wrong g (r.wrong 4 r.whole) 3 r.pos _ (by exact h1)).mono ?_
    rintro x w3 ⟨rfl, h3, fr3⟩
    go_wp2_with fail
    go_end0
    exact ⟨rfl, h3, (fr1.drewN n).call fr3 fr1.size (fun _ _ h => h)⟩
  | cons b l =>
    have hst : r.stray = r.wrong 3 r.pos := by unfold FRd.stray; rw [hs]; rfl
    rw [hst]
    have hne : (List.isEmpty r.s) = false := by rw [hs]; rfl
    clear hst hs
    go_enter Tryz.func29, Tryz.ntmps29
    go_wp2_with fail
    refine (frd_at g _ _ h ok).mono ?_
    rintro x w2 ⟨rfl, n, rfl⟩
    go_wp2_with fail
    refine (frd_wrong g r 3 r.pos _ (by exact h)).mono ?_
    rintro x w3 ⟨rfl, h3, fr3⟩
    go_wp2_with fail
    go_end0
    exact ⟨rfl, h3, ((Fr.refl _ _ _).drewN n).call fr3 (Nat.le_refl _) (fun _ _ h => h)⟩
end Go.Proofs.YtfddjbojpgnfoaaGreatDoor
