/- The walks of package flow's reader: its small methods, each with what it turns in the reader's block. The walks of package flow's reader: next, skip, wrongAs. The walks of package flow's reader: wrongAs. -/
import Derived.Test.YtbmonfcahhhdeaaGreatDoorLib
import Derived.Test.YtbmonfcahhhdeaaGreatDoorProg
import Derived.Test.YtbmonfcahhhdeaaGreatDoorQuoteB
set_option linter.unusedVariables false
set_option linter.unusedSimpArgs false
namespace Go.Proofs.YtbmonfcahhhdeaaGreatDoor
open Go.RowKit

/-- flow's reader. -/
structure FRd where
  whole : Int
  s : Bs
  why : Int
  at_ : Int

abbrev FRd.cells (r : FRd) : Array Value := #[.int .i64 r.whole, St r.s, .int .i64 r.why, .int .i64 r.at_]
/-- The reader stands in block g. -/
def FRd.At (r : FRd) (w : World) (g : Nat) : Prop := w.heap[g]? = some (.cells r.cells 60)
structure FRd.Ok (r : FRd) : Prop where
  len : (r.s.length : Int) ≤ r.whole
  hi : r.whole ≤ 140737488355328
def FRd.well (r : FRd) : Bool := decide (r.why = 0) && decide (r.at_ = 0)
def FRd.pos (r : FRd) : Int := r.whole - r.s.length
def FRd.wrong (r : FRd) (e a : Int) : FRd := if r.well then { r with why := e, at_ := a } else r
def FRd.stray (r : FRd) : FRd := (if r.s.isEmpty then r.wrong 4 r.whole else r).wrong 3 r.pos

theorem FRd.At.parts {r : FRd} {w : World} {g : Nat} (h : r.At w g) :
    w.cell? ⟨g, 0, none⟩ = some (.int .i64 r.whole) ∧ w.cell? ⟨g, 1, none⟩ = some (St r.s) ∧ w.cell? ⟨g, 2, none⟩ = some (.int .i64 r.why) ∧ w.cell? ⟨g, 3, none⟩ = some (.int .i64 r.at_) ∧
      w.frozen? ⟨g, 0, none⟩ = false ∧ w.frozen? ⟨g, 1, none⟩ = false ∧ w.frozen? ⟨g, 2, none⟩ = false ∧ w.frozen? ⟨g, 3, none⟩ = false := cells4 h
theorem FRd.At.set1 {r : FRd} {w : World} {g : Nat} (h : r.At w g) (s : Bs) : ({ r with s := s } : FRd).At (w.setCell ⟨g, 1, none⟩ (St s)) g := blk_set h
theorem FRd.At.set23 {r : FRd} {w : World} {g : Nat} (h : r.At w g) (y a : Int) : ({ r with why := y, at_ := a } : FRd).At ((w.setCell ⟨g, 2, none⟩ (.int .i64 y)).setCell ⟨g, 3, none⟩ (.int .i64 a)) g := blk_set (blk_set h)

set_option maxHeartbeats 400000 in
theorem frd_well (g : Nat) (r : FRd) (w : World) (h : r.At w g) :
    Calls Tryz.prog 31 #[.pointer (some ⟨g, 0, none⟩)] w fun e w' => e = .returned (.bool r.well) ∧ w' = w := by
  obtain ⟨c0, c1, c2, c3, f0, f1, f2, f3⟩ := h.parts
  by_cases h1 : r.why = 0 <;> by_cases h2 : r.at_ = 0
  all_goals
    go_enter Tryz.func31, Tryz.ntmps31
    go_wp2_with fail
    go_ret
    exact ⟨by simp [FRd.well, h1, h2], rfl⟩

set_option maxHeartbeats 400000 in
theorem frd_at (g : Nat) (r : FRd) (w : World) (h : r.At w g) (ok : r.Ok) :
    Calls Tryz.prog 33 #[.pointer (some ⟨g, 0, none⟩)] w fun e w' => e = .returned (.int .i64 r.pos) ∧ ∃ n, w' = w.drewN n := by
  obtain ⟨c0, c1, c2, c3, f0, f1, f2, f3⟩ := h.parts
  have o1 := ok.len
  have o2 := ok.hi
  go_enter Tryz.func33, Tryz.ntmps33
  go_wp2_with fail
  go_quiet (fail)
  go_wp2
  go_ret
  exact ⟨rfl, _, rfl⟩

set_option maxHeartbeats 400000 in
theorem frd_wrong (g : Nat) (r : FRd) (e a : Int) (w : World) (h : r.At w g) :
    Calls Tryz.prog 62 #[.pointer (some ⟨g, 0, none⟩), .int .i64 e, .int .i64 a] w fun x w' => x = .returned (.tuple #[]) ∧ (r.wrong e a).At w' g ∧ Fr (· = g) w.heap.size w w' := by
  obtain ⟨c0, c1, c2, c3, f0, f1, f2, f3⟩ := h.parts
  have hw := frd_well g r w h
  cases hb : r.well
  all_goals
    rw [hb] at hw
    go_enter Tryz.func62, Tryz.ntmps62
    go_wp2_with fail
    refine hw.mono ?_
    rintro x w' ⟨rfl, rfl⟩
    go_wp2_with fail
    go_end0
  · refine ⟨rfl, ?_, Fr.refl _ _ _⟩
    simp only [FRd.wrong, hb]
    exact h
  · refine ⟨rfl, ?_, ((Fr.refl _ _ _).own _ _).own _ _⟩
    simp only [FRd.wrong, hb]
    exact h.set23 e a

theorem FRd.wrong_s (r : FRd) (e a : Int) : (r.wrong e a).s = r.s := by unfold FRd.wrong; split <;> rfl
theorem FRd.wrong_whole (r : FRd) (e a : Int) : (r.wrong e a).whole = r.whole := by unfold FRd.wrong; split <;> rfl
theorem FRd.wrong_ok {r : FRd} (ok : r.Ok) (e a : Int) : (r.wrong e a).Ok := ⟨by rw [FRd.wrong_s, FRd.wrong_whole]; exact ok.len, by rw [FRd.wrong_whole]; exact ok.hi⟩
theorem FRd.wrong_pos (r : FRd) (e a : Int) : (r.wrong e a).pos = r.pos := by unfold FRd.pos; rw [FRd.wrong_s, FRd.wrong_whole]
theorem FRd.stray_s (r : FRd) : r.stray.s = r.s := by unfold FRd.stray; split <;> simp [FRd.wrong_s]
theorem FRd.stray_whole (r : FRd) : r.stray.whole = r.whole := by unfold FRd.stray; split <;> simp [FRd.wrong_whole]
theorem FRd.stray_ok {r : FRd} (ok : r.Ok) : r.stray.Ok := ⟨by rw [FRd.stray_s, FRd.stray_whole]; exact ok.len, by rw [FRd.stray_whole]; exact ok.hi⟩

set_option maxHeartbeats 400000 in
theorem frd_stray (g : Nat) (r : FRd) (w : World) (h : r.At w g) (ok : r.Ok) :
    Calls Tryz.prog 58 #[.pointer (some ⟨g, 0, none⟩)] w fun x w' => x = .returned (.tuple #[]) ∧ r.stray.At w' g ∧ Fr (· = g) w.heap.size w w' := by
  obtain ⟨c0, c1, c2, c3, f0, f1, f2, f3⟩ := h.parts
  cases hs : r.s with
  | nil =>
    have hst : r.stray = (r.wrong 4 r.whole).wrong 3 r.pos := by unfold FRd.stray; rw [hs]; rfl
    rw [hst]
    rw [hs] at c1
    go_enter Tryz.func58, Tryz.ntmps58
    go_wp2_with fail
    refine (frd_wrong g r 4 r.whole _ h).mono ?_
    rintro x w1 ⟨rfl, h1, fr1⟩
    go_wp2_with fail
    refine (frd_at g _ _ h1 (FRd.wrong_ok ok _ _)).mono ?_
    rintro x w2 ⟨rfl, n, rfl⟩
    rw [FRd.wrong_pos]
    go_wp2_with fail
    refine (frd_wrong g (r.wrong 4 r.whole) 3 r.pos _ (by exact h1)).mono ?_
    rintro x w3 ⟨rfl, h3, fr3⟩
    go_wp2_with fail
    go_end0
    exact ⟨rfl, h3, (fr1.drewN n).call fr3 fr1.size (fun _ _ h => h)⟩
  | cons b l =>
    have hst : r.stray = r.wrong 3 r.pos := by unfold FRd.stray; rw [hs]; rfl
    rw [hst]
    have hne : (List.isEmpty r.s) = false := by rw [hs]; rfl
    clear hst hs
    go_enter Tryz.func58, Tryz.ntmps58
    go_wp2_with fail
    refine (frd_at g _ _ h ok).mono ?_
    rintro x w2 ⟨rfl, n, rfl⟩
    go_wp2_with fail
    refine (frd_wrong g r 3 r.pos _ (by exact h)).mono ?_
    rintro x w3 ⟨rfl, h3, fr3⟩
    go_wp2_with fail
    go_end0
    exact ⟨rfl, h3, ((Fr.refl _ _ _).drewN n).call fr3 (Nat.le_refl _) (fun _ _ h => h)⟩
end Go.Proofs.YtbmonfcahhhdeaaGreatDoor

namespace Go.Proofs.YtbmonfcahhhdeaaGreatDoor
open Go.RowKit

def FRd.next (r : FRd) (cs : Bs) : Bool := r.well && (match r.s with | [] => false | b :: _ => cs.contains b)
def FRd.skip (r : FRd) (n : Nat) : FRd := { r with s := trimL (r.s.drop n) [32] }
def FRd.wrongAs (r : FRd) (e a : Int) : FRd := if e = 0 ∧ a = 0 then r else r.wrong e (r.pos + a)

set_option maxHeartbeats 2000000 in
theorem frd_next (g : Nat) (r : FRd) (cs : Bs) (w : World) (h : r.At w g) :
    Calls Tryz.prog 57 #[.pointer (some ⟨g, 0, none⟩), St cs] w fun e w' => e = .returned (.bool (r.next cs)) ∧ w' = w := by
  obtain ⟨c0, c1, c2, c3, f0, f1, f2, f3⟩ := h.parts
  have hw := frd_well g r w h
  cases hb : r.well with
  | false =>
    have hR : Hid (r.next cs = false) := by show r.next cs = false; unfold FRd.next; rw [hb]; rfl
    rw [hb] at hw
    rw [hR.out]
    clear hb
    go_enter Tryz.func57, Tryz.ntmps57
    go_wp2_with fail
    refine hw.mono ?_
    rintro x w' ⟨rfl, rfl⟩
    go_wp2_with fail
    go_ret
    exact ⟨rfl, rfl⟩
  | true =>
    rw [hb] at hw
    cases hs : r.s with
    | nil =>
      have hR : Hid (r.next cs = false) := by show r.next cs = false; unfold FRd.next; rw [hb, hs]; rfl
      rw [hR.out]
      rw [hs] at c1
      clear hb hs
      go_enter Tryz.func57, Tryz.ntmps57
      go_wp2_with fail
      refine hw.mono ?_
      rintro x w' ⟨rfl, rfl⟩
      go_wp2_with fail
      go_ret
      exact ⟨rfl, rfl⟩
    | cons b t =>
      have hR : Hid (r.next cs = cs.contains b) := by show r.next cs = _; unfold FRd.next; rw [hb, hs]; rfl
      rw [hR.out]
      rw [hs] at c1
      have hg : ∀ h, (⟨(b :: t).toArray⟩ : ByteArray)[0]'h = b := fun h => bs_get (b :: t) 0 (by simp) h
      clear hb hs hR
      have hy := fun w' => str_IndexByte_yes cs b w'
      have hn := fun w' => str_IndexByte_no cs b w'
      cases hc : cs.contains b with
      | true =>
        go_enter Tryz.func57, Tryz.ntmps57
        go_wp2_with fail
        refine hw.mono ?_
        rintro x w' ⟨rfl, rfl⟩
        go_wp2_with fail
        refine (hy _ hc).mono ?_
        rintro x w' ⟨⟨k, hk, rfl⟩, rfl⟩
        go_wp2_with fail
        go_ret
        exact ⟨rfl, rfl⟩
      | false =>
        go_enter Tryz.func57, Tryz.ntmps57
        go_wp2_with fail
        refine hw.mono ?_
        rintro x w' ⟨rfl, rfl⟩
        go_wp2_with fail
        refine (hn _ hc).mono ?_
        rintro x w' ⟨rfl, rfl⟩
        go_wp2_with fail
        go_ret
        exact ⟨rfl, rfl⟩

theorem FRd.skip_ok {r : FRd} (ok : r.Ok) (n : Nat) : (r.skip n).Ok := ⟨by
  have h1 := trimL_le (r.s.drop n) [32]
  have h2 := ok.len
  rw [List.length_drop] at h1
  show ((trimL (r.s.drop n) [32]).length : Int) ≤ r.whole
  omega, ok.hi⟩

set_option maxHeartbeats 2000000 in
theorem frd_skip (g : Nat) (r : FRd) (n : Nat) (hn : n ≤ r.s.length) (w : World) (h : r.At w g) :
    Calls Tryz.prog 55 #[.pointer (some ⟨g, 0, none⟩), .int .i64 n] w fun e w' => e = .returned (.tuple #[]) ∧ (r.skip n).At w' g ∧ Fr (· = g) w.heap.size w w' := by
  obtain ⟨c0, c1, c2, c3, f0, f1, f2, f3⟩ := h.parts
  have hsl : ∀ w', (Instr.slice 9 (St r.s) (some (.int .i64 n)) none none).run Tryz.prog w' = .ok (St (r.s.drop n)) w' := fun w' => by
    rw [run_slice_string_l w' 9 _ Tryz.underlying9 .i64 _ (by omega) (by show (n : Int) ≤ (r.s.length : Int); omega)]
    show Result.ok (Value.string (ByteArray.extract ⟨r.s.toArray⟩ (n : Int).toNat r.s.length)) w' = _
    rw [extract_end, Int.toNat_natCast]
  have hT := str_TrimLeft (r.s.drop n) 32 (by decide)
  have hA : (r.skip n).At (w.setCell ⟨g, 1, none⟩ (St (trimL (r.s.drop n) [32]))) g := h.set1 _
  have HA := Lib.hid hA
  clear hA hn
  generalize trimL (r.s.drop n) [32] = X at hT HA
  generalize r.s.drop n = D at hT hsl
  go_enter Tryz.func55, Tryz.ntmps55
  go_wp2_with fail
  refine (hT _).mono ?_
  rintro x w' ⟨rfl, rfl⟩
  go_wp2_with fail
  go_end0
  exact ⟨rfl, HA.out, (Fr.refl _ _ _).own _ _⟩

theorem FRd.wrongAs_s (r : FRd) (e a : Int) : (r.wrongAs e a).s = r.s := by unfold FRd.wrongAs; split; rfl; exact FRd.wrong_s _ _ _
theorem FRd.wrongAs_ok {r : FRd} (ok : r.Ok) (e a : Int) : (r.wrongAs e a).Ok := by unfold FRd.wrongAs; split; exact ok; exact FRd.wrong_ok ok _ _
end Go.Proofs.YtbmonfcahhhdeaaGreatDoor

namespace Go.Proofs.YtbmonfcahhhdeaaGreatDoor
open Go.RowKit

set_option maxHeartbeats 4000000 in
theorem frd_wrongAs (g : Nat) (r : FRd) (e a : Int) (ha0 : 0 ≤ a) (ha : a ≤ 140737488355328) (w : World) (h : r.At w g) (ok : r.Ok) :
    Calls Tryz.prog 101 #[.pointer (some ⟨g, 0, none⟩), Ft e a] w fun x w' => x = .returned (.tuple #[]) ∧ (r.wrongAs e a).At w' g ∧ Fr (· = g) w.heap.size w w' := by
  by_cases hz : e = 0 ∧ a = 0
  · obtain ⟨rfl, rfl⟩ := hz
    have hA : (r.wrongAs 0 0).At (w.alloc (.cells #[.int .i64 0, .int .i64 0] 31)) g := blk_alloc h
    have HA := Lib.hid hA
    clear hA
    go_enter Tryz.func101, Tryz.ntmps101
    go_wp2_with fail
    go_end0
    exact ⟨rfl, HA.out, below_fr' ((Below.refl _ _).alloc (Nat.le_refl _) _)⟩
  · have hR : r.wrongAs e a = r.wrong e (r.pos + a) := by unfold FRd.wrongAs; rw [if_neg hz]
    rw [hR]
    have hA1 : r.At (w.alloc (.cells #[.int .i64 e, .int .i64 a] 31)) g := blk_alloc h
    have o1 := ok.len
    have o2 := ok.hi
    have hwr : IntKind.i64.wrap (r.pos + a) = r.pos + a := by rw [IntKind.wrap_i64]; unfold FRd.pos; omega
    have hcase : ¬ e = 0 ∨ (e = 0 ∧ ¬ a = 0) := by
      by_cases h1 : e = 0
      · exact .inr ⟨h1, fun h2 => hz ⟨h1, h2⟩⟩
      · exact .inl h1
    have HAT := fun w' h' => frd_at g r w' h' ok
    have hf0 : ∀ m, Fr (· = g) w.heap.size w ((w.alloc (.cells #[.int .i64 e, .int .i64 a] 31)).drewN m) := fun m => below_fr' (below_drewN' ((Below.refl _ _).alloc (Nat.le_refl _) _) m)
    clear ha0 ha o1 o2 hR hz
    generalize hp : r.pos + a = p at hwr
    rcases hcase with h1 | ⟨rfl, h1⟩
    · have hfr := fun w' h' => frd_wrong g r e p w' h'
      go_enter Tryz.func101, Tryz.ntmps101
      go_wp2_with fail
      go_region_with (first | (go_at_call 33; refine (HAT _ (by exact hA1)).mono ?_; rintro x w2 ⟨rfl, n, rfl⟩) | (go_at_call 62; refine (hfr _ (by exact hA1)).mono ?_; rintro x w3 ⟨rfl, h3, fr3⟩))
      all_goals
        go_wp2_with fail
        go_end0
        exact ⟨rfl, h3, (hf0 _).call fr3 (by show w.heap.size ≤ (w.alloc _).heap.size; simp) (fun _ _ h => h)⟩
    · have hfr := fun w' h' => frd_wrong g r 0 p w' h'
      go_enter Tryz.func101, Tryz.ntmps101
      go_wp2_with fail
      go_region_with (first | (go_at_call 33; refine (HAT _ (by exact hA1)).mono ?_; rintro x w2 ⟨rfl, n, rfl⟩) | (go_at_call 62; refine (hfr _ (by exact hA1)).mono ?_; rintro x w3 ⟨rfl, h3, fr3⟩))
      all_goals
        go_wp2_with fail
        go_end0
        exact ⟨rfl, h3, (hf0 _).call fr3 (by show w.heap.size ≤ (w.alloc _).heap.size; simp) (fun _ _ h => h)⟩
end Go.Proofs.YtbmonfcahhhdeaaGreatDoor
