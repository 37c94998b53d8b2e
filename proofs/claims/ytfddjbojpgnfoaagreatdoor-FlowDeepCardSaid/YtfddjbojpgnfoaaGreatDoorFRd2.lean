/- The walks of package flow's reader: next, skip, wrongAs. -/
import Derived.Test.YtfddjbojpgnfoaaGreatDoorFRd1
import Derived.Test.YtfddjbojpgnfoaaGreatDoorQuoteB
set_option linter.unusedVariables false
set_option linter.unusedSimpArgs false
namespace Go.Proofs.YtfddjbojpgnfoaaGreatDoor
open Go.RowKit

def FRd.next (r : FRd) (cs : Bs) : Bool := r.well && (match r.s with | [] => false | b :: _ => cs.contains b)
def FRd.skip (r : FRd) (n : Nat) : FRd := { r with s := trimL (r.s.drop n) [32] }
def FRd.wrongAs (r : FRd) (e a : Int) : FRd := if e = 0 ∧ a = 0 then r else r.wrong e (r.pos + a)

set_option maxHeartbeats 2000000 in
theorem frd_next (g : Nat) (r : FRd) (cs : Bs) (w : World) (h : r.At w g) :
    Calls Tryz.prog 28 #[.pointer (some ⟨g, 0, none⟩), St cs] w fun e w' => e = .returned (.bool (r.next cs)) ∧ w' = w := by
  obtain ⟨c0, c1, c2, c3, f0, f1, f2, f3⟩ := h.parts
  have hw := frd_well g r w h
  cases hb : r.well with
  | false =>
    have hR : Hid (r.next cs = false) := by show r.next cs = false; unfold FRd.next; rw [hb]; rfl
    rw [hb] at hw
    rw [hR.out]
    clear hb
    go_enter Tryz.func28, Tryz.ntmps28
    go_wp2_with fail
    refine hw.mono ?_
    rintro x w' ⟨rfl, rfl⟩
    go_wp2_with fail
    go_ret
    exact ⟨rfl, rfl⟩
  | true =>
    rw [hb] at hw
    cases hs : r.s with
    | nil =>
      have hR : Hid (r.next cs = false) := by show r.next cs = false; unfold FRd.next; rw [hb, hs]; rfl
      rw [hR.out]
      rw [hs] at c1
      clear hb hs
      go_enter Tryz.func28, Tryz.ntmps28
      go_wp2_with fail
      refine hw.mono ?_
      rintro x w' ⟨rfl, rfl⟩
      go_wp2_with fail
      go_ret
      exact ⟨rfl, rfl⟩
    | cons b t =>
      have hR : Hid (r.next cs = cs.contains b) := by show r.next cs = _; unfold FRd.next; rw [hb, hs]; rfl
      rw [hR.out]
      rw [hs] at c1
      have hg : ∀ h, (⟨(b :: t).toArray⟩ : ByteArray)[0]'h = b := fun h => bs_get (b :: t) 0 (by simp) h
      clear hb hs hR
      have hy := fun w' => str_IndexByte_yes cs b w'
      have hn := fun w' => str_IndexByte_no cs b w'
      cases hc : cs.contains b with
      | true =>
        go_enter Tryz.func28, Tryz.ntmps28
        go_wp2_with fail
        refine hw.mono ?_
        rintro x w' ⟨rfl, rfl⟩
        go_wp2_with fail
        refine (hy _ hc).mono ?_
        rintro x w' ⟨⟨k, hk, rfl⟩, rfl⟩
        go_wp2_with fail
        go_ret
        exact ⟨rfl, rfl⟩
      | false =>
        go_enter Tryz.func28, Tryz.ntmps28
        go_wp2_with fail
        refine hw.mono ?_
        rintro x w' ⟨rfl, rfl⟩
        go_wp2_with fail
        refine (hn _ hc).mono ?_
        rintro x w' ⟨rfl, rfl⟩
        go_wp2_with fail
        go_ret
        exact ⟨rfl, rfl⟩

theorem FRd.skip_ok {r : FRd} (ok : r.Ok) (n : Nat) : (r.skip n).Ok := ⟨by
  have h1 := trimL_le (r.s.drop n) [32]
  have h2 := ok.len
  rw [List.length_drop] at h1
  show ((trimL (r.s.drop n) [32]).length : Int) ≤ r.whole
  omega, ok.hi⟩

set_option maxHeartbeats 2000000 in
theorem frd_skip (g : Nat) (r : FRd) (n : Nat) (hn : n ≤ r.s.length) (w : World) (h : r.At w g) :
    Calls Tryz.prog 26 #[.pointer (some ⟨g, 0, none⟩), .int .i64 n] w fun e w' => e = .returned (.tuple #[]) ∧ (r.skip n).At w' g ∧ Fr (· = g) w.heap.size w w' := by
  obtain ⟨c0, c1, c2, c3, f0, f1, f2, f3⟩ := h.parts
  have hsl : ∀ w', (Instr.slice 9 (St r.s) (some (.int .i64 n)) none none).run Tryz.prog w' = .ok (St (r.s.drop n)) w' := fun w' => by
    rw [run_slice_string_l w' 9 _ Tryz.underlying9 .i64 _ (by omega) (by show (n : Int) ≤ (r.s.length : Int); omega)]
    show Result.ok (Value.string (ByteArray.extract ⟨r.s.toArray⟩ (n : Int).toNat r.s.length)) w' = _
    rw [extract_end, Int.toNat_natCast]
  have hT := str_TrimLeft (r.s.drop n) 32 (by decide)
  have hA : (r.skip n).At (w.setCell ⟨g, 1, none⟩ (St (trimL (r.s.drop n) [32]))) g := h.set1 _
  have HA := Lib.hid hA
  clear hA hn
  generalize trimL (r.s.drop n) [32] = X at hT HA
  generalize r.s.drop n = D at hT hsl
  go_enter Tryz.func26, Tryz.ntmps26
  go_wp2_with fail
  refine (hT _).mono ?_
  rintro x w' ⟨rfl, rfl⟩
  go_wp2_with fail
  go_end0
  exact ⟨rfl, HA.out, (Fr.refl _ _ _).own _ _⟩

theorem FRd.wrongAs_s (r : FRd) (e a : Int) : (r.wrongAs e a).s = r.s := by unfold FRd.wrongAs; split; rfl; exact FRd.wrong_s _ _ _
theorem FRd.wrongAs_ok {r : FRd} (ok : r.Ok) (e a : Int) : (r.wrongAs e a).Ok := by unfold FRd.wrongAs; split; exact ok; exact FRd.wrong_ok ok _ _
end Go.Proofs.YtfddjbojpgnfoaaGreatDoor
