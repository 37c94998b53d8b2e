/- The walks of package quote: may, short; utf.Encode of one sign. -/
import Derived.Test.YtfddjbojpgnfoaaGreatDoorBld
import Derived.Test.YtfddjbojpgnfoaaGreatDoorPlain2
set_option linter.unusedVariables false
set_option linter.unusedSimpArgs false
namespace Go.Proofs.YtfddjbojpgnfoaaGreatDoor
open Go.RowKit

/-- quote.may. -/
def qmay (r : Int) : Bool := printable r && !decide (r = 9) && !decide (r = 10) && !decide (r = 13)
set_option maxHeartbeats 1000000 in
theorem quote_may (r : Int) (w : World) :
    Calls Tryz.prog 85 #[.int .i64 r] w fun e w' => e = .returned (.bool (qmay r)) ∧ w' = w := by
  have hP := utf_Printable r
  cases hp : printable r with
  | false =>
    have HR : Hid (qmay r = false) := by show qmay r = false; unfold qmay; rw [hp]; rfl
    rw [hp] at hP
    clear hp
    go_enter Tryz.func85, Tryz.ntmps85
    go_wp2_with fail
    refine (hP _).mono ?_
    rintro e w1 ⟨rfl, rfl⟩
    go_wp2_with fail
    go_ret
    exact ⟨by rw [HR.out]; rfl, rfl⟩
  | true =>
    by_cases h9 : r = 9
    · subst h9
      rw [hp] at hP
      clear hp
      go_enter Tryz.func85, Tryz.ntmps85
      go_wp2_with fail
      refine (hP _).mono ?_
      rintro e w1 ⟨rfl, rfl⟩
      go_wp2_with fail
      go_ret
      exact ⟨rfl, rfl⟩
    by_cases h10 : r = 10
    · subst h10
      rw [hp] at hP
      clear hp
      go_enter Tryz.func85, Tryz.ntmps85
      go_wp2_with fail
      refine (hP _).mono ?_
      rintro e w1 ⟨rfl, rfl⟩
      go_wp2_with fail
      go_ret
      exact ⟨rfl, rfl⟩
    by_cases h13 : r = 13
    · subst h13
      rw [hp] at hP
      clear hp
      go_enter Tryz.func85, Tryz.ntmps85
      go_wp2_with fail
      refine (hP _).mono ?_
      rintro e w1 ⟨rfl, rfl⟩
      go_wp2_with fail
      go_ret
      exact ⟨rfl, rfl⟩
    have HR : Hid (qmay r = true) := by show qmay r = true; unfold qmay; rw [hp]; simp [h9, h10, h13]
    have e9 : (r != 9) = true := by simpa using h9
    have e10 : (r != 10) = true := by simpa using h10
    have e13 : (r != 13) = true := by simpa using h13
    rw [hp] at hP
    clear hp h9 h10 h13
    go_enter Tryz.func85, Tryz.ntmps85
    go_wp2_with fail
    refine (hP _).mono ?_
    rintro e w1 ⟨rfl, rfl⟩
    go_wp2_with fail
    go_ret
    exact ⟨by rw [HR.out]; rfl, rfl⟩

/-- quote.short. -/
def qshort (r : Int) : UInt8 := if r = 34 then 34 else if r = 92 then 92 else if r = 10 then 110 else if r = 9 then 116 else if r = 13 then 114 else if r = 0 then 48 else 0
set_option maxHeartbeats 1000000 in
theorem quote_short (r : Int) (w : World) :
    Calls Tryz.prog 84 #[.int .i64 r] w fun e w' => e = .returned (.int .u8 (qshort r).toNat) ∧ w' = w := by
  by_cases h1 : r = 34
  · subst h1; go_enter Tryz.func84, Tryz.ntmps84; go_wp2_with fail; go_ret; exact ⟨rfl, rfl⟩
  by_cases h2 : r = 92
  · subst h2; go_enter Tryz.func84, Tryz.ntmps84; go_wp2_with fail; go_ret; exact ⟨rfl, rfl⟩
  by_cases h3 : r = 10
  · subst h3; go_enter Tryz.func84, Tryz.ntmps84; go_wp2_with fail; go_ret; exact ⟨rfl, rfl⟩
  by_cases h4 : r = 9
  · subst h4; go_enter Tryz.func84, Tryz.ntmps84; go_wp2_with fail; go_ret; exact ⟨rfl, rfl⟩
  by_cases h5 : r = 13
  · subst h5; go_enter Tryz.func84, Tryz.ntmps84; go_wp2_with fail; go_ret; exact ⟨rfl, rfl⟩
  by_cases h6 : r = 0
  · subst h6; go_enter Tryz.func84, Tryz.ntmps84; go_wp2_with fail; go_ret; exact ⟨rfl, rfl⟩
  have HR : Hid (qshort r = 0) := by show qshort r = 0; unfold qshort; simp [h1, h2, h3, h4, h5, h6]
  have e1 : (r == 34) = false := by simpa using h1
  have e2 : (r == 92) = false := by simpa using h2
  have e3 : (r == 10) = false := by simpa using h3
  have e4 : (r == 9) = false := by simpa using h4
  have e5 : (r == 13) = false := by simpa using h5
  have e6 : (r == 0) = false := by simpa using h6
  clear h1 h2 h3 h4 h5 h6
  go_enter Tryz.func84, Tryz.ntmps84
  go_wp2_with fail
  go_ret
  exact ⟨by rw [HR.out]; rfl, rfl⟩

/-- Is a number a sign's? -/
def sign (n : Int) : Bool := decide (0 ≤ n) && decide (n ≤ 1114111) && Lib.validRune n
set_option maxHeartbeats 2000000 in
theorem utf_Encode_bad (n : Int) (g : Nat) (w : World) (hc : w.cell? ⟨g, 0, none⟩ = some (.int .i64 n)) (hn : sign n = false) :
    Calls Tryz.prog 90 #[.slice (some ⟨g, 0, none⟩) 1 1] w fun e w' => e = .returned (.tuple #[St [], .int .i64 8]) ∧ Below w.heap.size w w' := by
  have hlt := World.block_lt_of_cell? w _ hc
  simp only [] at hlt
  by_cases h1 : n < 0
  · go_enter Tryz.func90, Tryz.ntmps90
    go_wp2_with fail
    refine wp_loop_once ?_
    go_wp2_with fail
    go_ret2
    exact ⟨rfl, (Below.refl _ _).alloc (Nat.le_refl _) _⟩
  by_cases h2 : 1114111 < n
  · go_enter Tryz.func90, Tryz.ntmps90
    go_wp2_with fail
    refine wp_loop_once ?_
    go_wp2_with fail
    go_ret2
    exact ⟨rfl, (Below.refl _ _).alloc (Nat.le_refl _) _⟩
  have hv : Lib.validRune n = false := by
    unfold sign at hn
    simpa [show 0 ≤ n from by omega, show n ≤ 1114111 from by omega] using hn
  have hV := Tryz.utf8_ValidRune n
  rw [hv] at hV
  have b1 : 0 ≤ n := by omega
  have b2 : n ≤ 1114111 := by omega
  clear hv hn h1 h2
  go_enter Tryz.func90, Tryz.ntmps90
  go_wp2_with fail
  refine wp_loop_once ?_
  go_wp2_with fail
  refine (hV _).mono ?_
  rintro e w1 ⟨rfl, rfl⟩
  go_wp2_with fail
  go_ret2
  exact ⟨rfl, (Below.refl _ _).alloc (Nat.le_refl _) _⟩

set_option maxHeartbeats 2000000 in
theorem utf_Encode_ok (n : Int) (g : Nat) (w : World) (hc : w.cell? ⟨g, 0, none⟩ = some (.int .i64 n)) (hn : sign n = true) :
    Calls Tryz.prog 90 #[.slice (some ⟨g, 0, none⟩) 1 1] w fun e w' => e = .returned (.tuple #[St (runeBs n), .int .i64 0]) ∧ Below w.heap.size w w' := by
  have hlt := World.block_lt_of_cell? w _ hc
  simp only [] at hlt
  unfold sign at hn
  simp only [Bool.and_eq_true, decide_eq_true_eq] at hn
  obtain ⟨⟨b1, b2⟩, hv⟩ := hn
  have hV := Tryz.utf8_ValidRune n
  rw [hv] at hV
  have hW := fun w' h => bld_WriteRune bt_builder w.heap.size w.heap.size [] n (by omega) (by omega) w' h (by decide)
  have hS := fun w' h => bld_String bt_builder w.heap.size w.heap.size (runeBs n) w' h
  rw [List.nil_append] at hW
  generalize runeBs n = X at hW hS ⊢
  clear hv
  go_enter Tryz.func90, Tryz.ntmps90
  go_wp2_with fail
  go_loopw [9] (fun v wr => (v = .int .i64 0 ∧ Hid (wr = w.alloc (.cells #[.pointer none, .slice none 0 0] 43))) ∨ (v = .int .i64 1 ∧ Hid (Bld 43 w.heap.size w.heap.size X wr ∧ Below w.heap.size w wr))) (fun v _ => 1 - (intOf v).toNat)
  case atStart => exact .inl ⟨rfl, rfl⟩
  case round =>
    rcases hrel with ⟨rfl, HW⟩ | ⟨rfl, HW⟩
    · have hc1 : wr.cell? ⟨g, 0, none⟩ = some (.int .i64 n) := by rw [HW.out, World.cell?_alloc_lt _ _ _ hlt]; exact hc
      have hB : Bld 43 w.heap.size w.heap.size [] wr := by rw [HW.out]; exact Bld.fresh (Nat.le_refl _) (blk_new _ _)
      have hZ : w.heap.size ≤ wr.heap.size := by rw [HW.out]; simp
      have HB := Lib.hid hB
      clear hB hc
      go_wp2_with fail
      refine (hV _).mono ?_
      rintro e w1 ⟨rfl, rfl⟩
      go_wp2_with fail
      refine (hW _ HB.out hZ).mono ?_
      rintro e w2 ⟨rfl, hb2, hf2⟩
      have HX : Hid (Bld 43 w.heap.size w.heap.size X w2 ∧ Below w.heap.size w w2) := ⟨hb2, ((Below.refl _ _).alloc (Nat.le_refl _) _).trans (by have := hf2.below; rw [HW.out] at this; exact this)⟩
      clear hb2 hf2 HW HB
      go_wp2_with fail
      go_roundw
      case rel => exact .inr ⟨by go_num, HX⟩
      case measure => simp [intOf]
    · go_wp2_with fail
      refine (hS _ HW.out.1 HW.out.2.size).mono ?_
      rintro e w2 ⟨rfl, hb2, hf2⟩
      go_wp2_with fail
      go_ret2
      exact ⟨rfl, HW.out.2.trans hf2.below⟩
end Go.Proofs.YtfddjbojpgnfoaaGreatDoor
