/- The walks of package utf: First, Printable, walk (over Printable and over Decode's closure), Decode, Check, fault. -/
import Derived.Test.YtfddjbojpgnfoaaGreatDoorLib
import Derived.Test.YtfddjbojpgnfoaaGreatDoorProg
import Derived.LoopTactic
set_option linter.unusedVariables false
set_option linter.unusedSimpArgs false
namespace Go.Proofs.YtfddjbojpgnfoaaGreatDoor
open Go.RowKit

/-- The decoder of Go's library at the begin of a text. -/
def dec (l : Bs) : Nat × Nat := Lib.decodeGo ⟨l.toArray⟩
/-- utf.First. -/
def utf1 (l : Bs) : Int × Nat := if (dec l).1 = 65533 ∧ (dec l).2 < 3 then (-1, (dec l).2) else (((dec l).1 : Int), (dec l).2)

theorem decodeN_bounds (n b0 b1 b2 b3 : Nat) (hn : 1 ≤ n) (h0 : b0 < 256) (h1 : b1 < 256) (h2 : b2 < 256) (h3 : b3 < 256) :
    1 ≤ (Lib.decodeN n b0 b1 b2 b3).2 ∧ (Lib.decodeN n b0 b1 b2 b3).2 ≤ n ∧ (Lib.decodeN n b0 b1 b2 b3).1 ≤ 1114111 := by
  unfold Lib.decodeN
  repeat' split
  all_goals (refine ⟨?_, ?_, ?_⟩ <;> simp only [] <;> omega)
theorem dec_cons (b : UInt8) (l : Bs) : dec (b :: l) = Lib.decodeN (l.length + 1) b.toNat ((⟨(b :: l).toArray⟩ : ByteArray).get! 1).toNat ((⟨(b :: l).toArray⟩ : ByteArray).get! 2).toNat ((⟨(b :: l).toArray⟩ : ByteArray).get! 3).toNat := by
  unfold dec Lib.decodeGo
  rw [if_neg (by simp [ByteArray.size]), Lib.decode_at]
  rfl
theorem dec_bounds (l : Bs) : (dec l).1 ≤ 1114111 ∧ (dec l).2 ≤ l.length ∧ (l ≠ [] → 1 ≤ (dec l).2) := by
  cases l with
  | nil => exact ⟨by decide, by decide, fun h => absurd rfl h⟩
  | cons b l =>
    rw [dec_cons]
    generalize (ByteArray.get! _ 1) = x1
    generalize (ByteArray.get! _ 2) = x2
    generalize (ByteArray.get! _ 3) = x3
    have := decodeN_bounds (l.length + 1) b.toNat x1.toNat x2.toNat x3.toNat (by omega) b.toNat_lt (UInt8.toNat_lt _) (UInt8.toNat_lt _) (UInt8.toNat_lt _)
    exact ⟨this.2.2, by simpa using this.2.1, fun _ => this.1⟩
theorem utf1_bounds (l : Bs) : -1 ≤ (utf1 l).1 ∧ (utf1 l).1 ≤ 1114111 ∧ (utf1 l).2 ≤ l.length ∧ (l ≠ [] → 1 ≤ (utf1 l).2) := by
  have h := dec_bounds l
  unfold utf1
  split
  · exact ⟨by simp, by simp, h.2.1, h.2.2⟩
  · exact ⟨by simp only []; omega, by simp only []; omega, h.2.1, h.2.2⟩

set_option maxHeartbeats 1000000 in
theorem utf_First' (l : Bs) (w : World) (R K X : Int) (h1 : 0 ≤ R) (h2 : R ≤ 1114111) (hX : X = if R = 65533 ∧ K < 3 then -1 else R)
    (hc : Calls Tryz.prog 41 #[St l] w fun e w' => e = .returned (.tuple #[.int .i32 R, .int .i64 K]) ∧ Below w.heap.size w w') :
    Calls Tryz.prog 91 #[St l] w fun e w' => e = .returned (.tuple #[.int .i64 X, .int .i64 K]) ∧ Below w.heap.size w w' := by
  by_cases a1 : R = 65533
  · subst a1
    by_cases a2 : K < 3
    · have HX : Hid (X = -1) := by rw [hX]; simp [a2, Hid]
      clear hX
      go_enter Tryz.func91, Tryz.ntmps91
      go_wp2_with fail
      refine hc.mono ?_
      rintro e w' ⟨rfl, hbl⟩
      go_wp2_with fail
      go_ret2
      exact ⟨by rw [HX.out]; rfl, hbl⟩
    · have HX : Hid (X = 65533) := by rw [hX]; simp [a2, Hid]
      clear hX
      go_enter Tryz.func91, Tryz.ntmps91
      go_wp2_with fail
      refine hc.mono ?_
      rintro e w' ⟨rfl, hbl⟩
      go_wp2_with fail
      go_ret2
      exact ⟨by rw [HX.out]; rfl, hbl⟩
  · have h1' : (R == 65533) = false := by simpa using a1
    have HX : Hid (X = R) := by rw [hX]; simp [a1, Hid]
    clear hX
    go_enter Tryz.func91, Tryz.ntmps91
    go_wp2_with fail
    refine hc.mono ?_
    rintro e w' ⟨rfl, hbl⟩
    go_wp2_with fail
    go_ret2
    exact ⟨by rw [HX.out]; rfl, hbl⟩
theorem utf_First (l : Bs) (G : Nat) (w : World) (he : Env G w) :
    Calls Tryz.prog 91 #[St l] w fun e w' => e = .returned (.tuple #[.int .i64 (utf1 l).1, .int .i64 ((utf1 l).2 : Int)]) ∧ Below w.heap.size w w' := by
  have hb := dec_bounds l
  have e2 : (utf1 l).2 = (dec l).2 := by unfold utf1; split <;> rfl
  rw [e2]
  refine utf_First' l w (dec l).1 (dec l).2 _ (by omega) (by omega) ?_ (Tryz.utf8_DecodeRuneInString ⟨l.toArray⟩ w he.facts.u8)
  unfold utf1
  by_cases h : (dec l).1 = 65533 ∧ (dec l).2 < 3
  · rw [if_pos h, if_pos (by omega)]
  · rw [if_neg h, if_neg (by omega)]

/-- utf.Printable. -/
def printable (r : Int) : Bool :=
  if r < 32 then decide (r = 9) || decide (r = 10) || decide (r = 13) else if r < 127 then true else if r < 160 then decide (r = 133) else if r < 55296 then true
  else if r < 65536 then decide (57344 ≤ r) && decide (r ≤ 65533) && !decide (r = 65279) else decide (r ≤ 1114111)

set_option maxHeartbeats 1000000 in
theorem utf_Printable (r : Int) (w : World) :
    Calls Tryz.prog 79 #[.int .i64 r] w fun e w' => e = .returned (.bool (printable r)) ∧ w' = w := by
  go_enter Tryz.func79, Tryz.ntmps79
  go_wp2_with fail
  all_goals go_ret
  all_goals refine ⟨?_, rfl⟩
  all_goals unfold printable
  all_goals (refine ret_of (bool_of ?_); rw [Bool.eq_iff_iff]; (repeat' split) <;> simp_all <;> omega)
end Go.Proofs.YtfddjbojpgnfoaaGreatDoor
