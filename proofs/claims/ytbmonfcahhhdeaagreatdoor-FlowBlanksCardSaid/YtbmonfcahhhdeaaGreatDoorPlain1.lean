/- The walks of package plain: isFlow, isGap, end and its closure, Cut, Text, Number, Resolve. -/
import Derived.Test.YtbmonfcahhhdeaaGreatDoorStr
import Derived.Test.YtbmonfcahhhdeaaGreatDoorUtf3
set_option linter.unusedVariables false
set_option linter.unusedSimpArgs false
namespace Go.Proofs.YtbmonfcahhhdeaaGreatDoor
open Go.RowKit

def flows : Bs := [44, 91, 93, 123, 125]
def isFlow (l : Bs) (f : Bool) : Bool := f && (match l with | [] => false | b :: _ => flows.contains b)
def isGap (l : Bs) (f : Bool) : Bool := match l with | [] => true | b :: _ => b == 32 || isFlow l f

theorem u8_int (b : UInt8) (n : Nat) (hn : n < 256) : ((b.toNat : Int) == (n : Int)) = (b == UInt8.ofNat n) := by
  rw [Bool.eq_iff_iff, beq_iff_eq, beq_iff_eq]
  constructor
  · intro h
    apply UInt8.toNat_inj.1
    rw [UInt8.toNat_ofNat_of_lt' (by simpa using hn)]
    omega
  · intro h
    rw [h, UInt8.toNat_ofNat_of_lt' (by simpa using hn)]

@[go_sem] theorem bs_get0 (b : UInt8) (l : Bs) (hx : 0 < (⟨(b :: l).toArray⟩ : ByteArray).size) : (⟨(b :: l).toArray⟩ : ByteArray)[0]'hx = b := rfl

set_option maxHeartbeats 1000000 in
theorem plain_isFlow (l : Bs) (f : Bool) (w : World) :
    Calls Tryz.prog 113 #[St l, .bool f] w fun e w' => e = .returned (.bool (isFlow l f)) ∧ w' = w := by
  cases f with
  | false =>
    go_enter Tryz.func113, Tryz.ntmps113
    go_wp2_with fail
    go_ret
    exact ⟨rfl, rfl⟩
  | true =>
    cases l with
    | nil =>
      go_enter Tryz.func113, Tryz.ntmps113
      go_wp2_with fail
      go_ret
      exact ⟨rfl, rfl⟩
    | cons b l =>
      cases hc : flows.contains b with
      | true =>
        have h := str_IndexByte_yes flows b w hc
        unfold flows at h
        have HR : Hid (isFlow (b :: l) true = true) := by simp only [isFlow, hc]; rfl
        clear hc
        go_enter Tryz.func113, Tryz.ntmps113
        go_wp2_with fail
        refine h.mono ?_
        rintro e w' ⟨⟨k, hk, rfl⟩, rfl⟩
        go_wp2_with fail
        go_ret
        exact ⟨by rw [HR.out]; rfl, rfl⟩
      | false =>
        have h := str_IndexByte_no flows b w hc
        unfold flows at h
        have HR : Hid (isFlow (b :: l) true = false) := by simp only [isFlow, hc]; rfl
        clear hc
        go_enter Tryz.func113, Tryz.ntmps113
        go_wp2_with fail
        refine h.mono ?_
        rintro e w' ⟨rfl, rfl⟩
        go_wp2_with fail
        go_ret
        exact ⟨by rw [HR.out]; rfl, rfl⟩

theorem ne_u8 {b : UInt8} {n : Nat} (hn : n < 256) (h : b ≠ UInt8.ofNat n) : ((b.toNat : Int) == (n : Int)) = false := by rw [u8_int b n hn]; simpa using h
theorem eq_u8 {b : UInt8} {n : Nat} (hn : n < 256) (h : b = UInt8.ofNat n) : ((b.toNat : Int) == (n : Int)) = true := by rw [u8_int b n hn]; simpa using h

set_option maxHeartbeats 1000000 in
theorem plain_isGap (l : Bs) (f : Bool) (w : World) :
    Calls Tryz.prog 83 #[St l, .bool f] w fun e w' => e = .returned (.bool (isGap l f)) ∧ w' = w := by
  cases l with
  | nil =>
    go_enter Tryz.func83, Tryz.ntmps83
    go_wp2_with fail
    go_ret
    exact ⟨rfl, rfl⟩
  | cons b l =>
    by_cases h : b = 32
    · subst h
      go_enter Tryz.func83, Tryz.ntmps83
      go_wp2_with fail
      go_ret
      exact ⟨rfl, rfl⟩
    · have hb : ((b.toNat : Int) == 32) = false := ne_u8 (n := 32) (by decide) h
      have HR : Hid (isGap (b :: l) f = isFlow (b :: l) f) := by
        show (b == 32 || isFlow (b :: l) f) = _
        rw [show (b == 32) = false from by simpa using h, Bool.false_or]
      have hF := plain_isFlow (b :: l) f
      generalize isFlow (b :: l) f = X at HR hF
      clear h
      go_enter Tryz.func83, Tryz.ntmps83
      go_wp2_with fail
      refine (hF _).mono ?_
      rintro e w' ⟨rfl, rfl⟩
      go_wp2_with fail
      go_ret
      exact ⟨by rw [HR.out]; rfl, rfl⟩

/-- Does a text end at place i? -/
def endIs (l : Bs) (f : Bool) (i : Nat) : Bool :=
  if l.getD i 0 = 58 then isGap (l.drop (i + 1)) f else if l.getD i 0 = 35 then decide (0 < i) && (l.getD (i - 1) 0 == 32) else isFlow (l.drop i) f

set_option maxHeartbeats 1000000 in
theorem plain_end1 (l : Bs) (f : Bool) (i : Nat) (hi : i < l.length) (hl : l.length ≤ 140737488355328) (b1 b2 : Nat) (w : World) (h1 : w.cell? ⟨b1, 0, none⟩ = some (St l)) (h2 : w.cell? ⟨b2, 0, none⟩ = some (.bool f)) :
    Calls Tryz.prog 114 #[.int .i64 i, .pointer (some ⟨b1, 0, none⟩), .pointer (some ⟨b2, 0, none⟩)] w fun e w' => e = .returned (.bool (endIs l f i)) ∧ ∃ n, w' = w.drewN n := by
  have hb := bs_get l i hi
  obtain ⟨b, hB⟩ : ∃ b, l.getD i 0 = b := ⟨_, rfl⟩
  rw [hB] at hb
  by_cases c1 : b = 58
  · have t1 : ((b.toNat : Int) == 58) = true := eq_u8 (n := 58) (by decide) c1
    have HR : Hid (endIs l f i = isGap (l.drop (i + 1)) f) := by show endIs l f i = _; unfold endIs; rw [hB, if_pos c1]
    have hG := plain_isGap (l.drop (i + 1)) f
    generalize isGap (l.drop (i + 1)) f = X at HR hG
    have e1 : IntKind.i64.wrap ((i : Int) + 1) = (i : Int) + 1 := IntWalk.i64_in _ (by omega)
    have e2 : ((i : Int) + 1).toNat = i + 1 := by omega
    have e3 : (0 : Int) ≤ (i : Int) + 1 := by omega
    have e4 : i + 1 ≤ l.length := hi
    clear c1 hB
    go_enter Tryz.func114, Tryz.ntmps114
    go_wp2_with fail
    go_quiet ((go_at_call 83; exact Calls.quiet_of_same (hG _)))
    go_wp2_with fail
    go_ret
    exact ⟨by rw [HR.out]; rfl, _, rfl⟩
  · have t1 : ((b.toNat : Int) == 58) = false := ne_u8 (n := 58) (by decide) c1
    by_cases c2 : b = 35
    · have t2 : ((b.toNat : Int) == 35) = true := eq_u8 (n := 35) (by decide) c2
      by_cases c3 : i = 0
      · subst c3
        have HR : Hid (endIs l f 0 = false) := by show endIs l f 0 = _; unfold endIs; rw [hB, if_neg c1, if_pos c2]; rfl
        clear c1 c2 hB
        go_enter Tryz.func114, Tryz.ntmps114
        go_wp2_with fail
        go_ret
        exact ⟨by rw [HR.out]; rfl, 0, rfl⟩
      · have hb2 := bs_get l (i - 1) (by omega)
        obtain ⟨d, hD⟩ : ∃ d, l.getD (i - 1) 0 = d := ⟨_, rfl⟩
        rw [hD] at hb2
        have HR : Hid (endIs l f i = (d == 32)) := by
          show endIs l f i = _
          unfold endIs
          rw [hB, if_neg c1, if_pos c2, hD, show decide (0 < i) = true from by simpa using (by omega : 0 < i), Bool.true_and]
        have e0 : (0 : Int) < (i : Int) := by omega
        have e1 : ((i : Int) - 1).toNat = i - 1 := by omega
        have e2 : (0 : Int) ≤ (i : Int) - 1 := by omega
        have e3 : i - 1 < l.length := by omega
        have e4 : (i : Int) - 1 < (l.length : Int) := by omega
        by_cases c4 : d = 32
        · have t3 : ((d.toNat : Int) == 32) = true := eq_u8 (n := 32) (by decide) c4
          clear c1 c2 hB hD
          go_enter Tryz.func114, Tryz.ntmps114
          go_wp2_with fail
          go_ret
          exact ⟨by rw [HR.out, c4]; rfl, 0, rfl⟩
        · have t3 : ((d.toNat : Int) == 32) = false := ne_u8 (n := 32) (by decide) c4
          clear c1 c2 hB hD
          go_enter Tryz.func114, Tryz.ntmps114
          go_wp2_with fail
          go_ret
          exact ⟨by rw [HR.out, show (d == 32) = false from by simpa using c4]; rfl, 0, rfl⟩
    · have t2 : ((b.toNat : Int) == 35) = false := ne_u8 (n := 35) (by decide) c2
      have HR : Hid (endIs l f i = isFlow (l.drop i) f) := by show endIs l f i = _; unfold endIs; rw [hB, if_neg c1, if_neg c2]
      have hG := plain_isFlow (l.drop i) f
      generalize isFlow (l.drop i) f = X at HR hG
      clear c1 c2 hB
      go_enter Tryz.func114, Tryz.ntmps114
      go_wp2_with fail
      go_quiet ((go_at_call 113; exact Calls.quiet_of_same (hG _)))
      go_wp2_with fail
      go_ret
      exact ⟨by rw [HR.out]; rfl, _, rfl⟩

/-- plain.end: the place of the first thing that ends a text. -/
def pend (l : Bs) (f : Bool) : Nat := ((List.range l.length).find? (endIs l f)).getD l.length
theorem pend_at (l : Bs) (f : Bool) (k : Nat) (hk : k < l.length) (h0 : ∀ j, j < k → endIs l f j = false) (h1 : endIs l f k = true) : pend l f = k := by
  unfold pend
  rw [show (List.range l.length).find? (endIs l f) = some k from ?_]; rfl
  rw [List.find?_eq_some_iff_getElem]
  refine ⟨h1, k, by simpa using hk, by simp, fun j hj => by simp [h0 j hj]⟩
theorem pend_end (l : Bs) (f : Bool) (h0 : ∀ j, j < l.length → endIs l f j = false) : pend l f = l.length := by
  unfold pend
  rw [show (List.range l.length).find? (endIs l f) = none from ?_]; rfl
  rw [List.find?_eq_none]
  intro j hj
  simp at hj
  simp [h0 j hj]
theorem pend_le (l : Bs) (f : Bool) : pend l f ≤ l.length := by
  unfold pend
  cases h : (List.range l.length).find? (endIs l f) with
  | none => exact Nat.le_refl _
  | some k =>
    have := List.mem_of_find?_eq_some h
    simp at this
    exact Nat.le_of_lt this

set_option maxHeartbeats 1000000 in
theorem plain_end (l : Bs) (f : Bool) (hl : l.length ≤ 140737488355328) (w : World) :
    Calls Tryz.prog 84 #[St l, .bool f] w fun e w' => e = .returned (.int .i64 (pend l f : Nat)) ∧ Below w.heap.size w w' := by
  go_enter Tryz.func84, Tryz.ntmps84
  go_wp2_with fail
  go_loopw [10] (fun v wr => ∃ k : Nat, v = .int .i64 k ∧ k ≤ l.length ∧ Hid (∀ j, j < k → endIs l f j = false) ∧ Hid (∃ n, wr = ((w.alloc (.cells #[St l] 9)).alloc (.cells #[.bool f] 4)).drewN n)) (fun v _ => l.length - (intOf v).toNat)
  case atStart => exact ⟨0, rfl, Nat.zero_le _, fun j hj => absurd hj (by omega), 0, rfl⟩
  case round =>
    obtain ⟨k, rfl, hk, HJ, HW⟩ := hrel
    obtain ⟨n, hW⟩ := HW.out
    by_cases hlt : k < l.length
    · have h1 : wr.cell? ⟨w.heap.size, 0, none⟩ = some (St l) := by
        rw [hW]
        exact blk_cell (blk_alloc (blk_new w (.cells #[St l] 9))) 0
      have h2 : wr.cell? ⟨w.heap.size + 1, 0, none⟩ = some (.bool f) := by
        rw [hW]
        exact blk_cell (blk_new1 w (.cells #[St l] 9) (.cells #[.bool f] 4)) 0
      have hE := plain_end1 l f k hlt hl w.heap.size (w.heap.size + 1) wr h1 h2
      cases hc : endIs l f k with
      | true =>
        have HR : Hid (pend l f = k) := pend_at l f k hlt HJ.out hc
        rw [hc] at hE
        clear hc hW
        go_wp2_with fail
        refine hE.mono ?_
        rintro e w1 ⟨rfl, m, rfl⟩
        go_wp2_with fail
        go_ret
        obtain ⟨n, rfl⟩ := HW.out
        exact ⟨by rw [HR.out]; rfl, below_drewN' (below_drewN' (((Below.refl _ _).alloc (Nat.le_refl _) _).alloc (by simp) _) n) m⟩
      | false =>
        have HJ2 : Hid (∀ j, j < k + 1 → endIs l f j = false) := fun j hj => by
          by_cases h : j = k
          · rw [h]; exact hc
          · exact HJ.out j (by omega)
        rw [hc] at hE
        clear hc hW HJ
        go_wp2_with fail
        refine hE.mono ?_
        rintro e w1 ⟨rfl, m, rfl⟩
        go_wp2_with fail
        go_roundw
        case rel => exact ⟨k + 1, by go_num, by omega, HJ2, by obtain ⟨n, rfl⟩ := HW.out; exact ⟨n + m, by simp⟩⟩
        case measure => simp [intOf]; omega
    · obtain rfl : k = l.length := by omega
      have HR : Hid (pend l f = l.length) := pend_end l f HJ.out
      have h1 : wr.cell? ⟨w.heap.size, 0, none⟩ = some (St l) := by
        rw [hW]
        exact blk_cell (blk_alloc (blk_new w (.cells #[St l] 9))) 0
      clear hW HJ
      go_wp2_with fail
      go_ret
      obtain ⟨n, rfl⟩ := HW.out
      exact ⟨by rw [HR.out]; rfl, below_drewN' (((Below.refl _ _).alloc (Nat.le_refl _) _).alloc (by simp) _) n⟩

/-- plain.Cut. -/
def pcut (l : Bs) (f : Bool) : Bs := trimR (l.take (pend l f)) [32]
set_option maxHeartbeats 1000000 in
theorem plain_Cut (l : Bs) (f : Bool) (hl : l.length ≤ 140737488355328) (w : World) :
    Calls Tryz.prog 102 #[St l, .bool f] w fun e w' => e = .returned (.tuple #[St (pcut l f), .int .i64 (pend l f : Nat)]) ∧ Below w.heap.size w w' := by
  have hE := plain_end l f hl w
  have hle := pend_le l f
  have hT := fun w' => str_TrimRight (l.take (pend l f)) 32 (by decide) (by rw [List.length_take]; omega) w'
  unfold pcut
  generalize pend l f = k at hE hle hT ⊢
  generalize trimR (l.take k) [32] = X at hT ⊢
  go_enter Tryz.func102, Tryz.ntmps102
  go_wp2_with fail
  refine hE.mono ?_
  rintro e w1 ⟨rfl, hb1⟩
  go_wp2_with fail
  refine (hT _).mono ?_
  rintro e w2 ⟨rfl, rfl⟩
  go_wp2_with fail
  go_ret2
  exact ⟨rfl, hb1⟩

theorem plain_Text (n : Int) (h0 : -9223372036854775808 ≤ n) (h1 : n ≤ 9223372036854775807) (G : Nat) (w : World) (he : Env G w) :
    Calls Tryz.prog 116 #[.int .i64 n] w fun e w' => e = .returned (St (Lib.itoa n)) ∧ Below w.heap.size w w' := by
  have hI := str_Itoa n h0 h1 G w he
  generalize Lib.itoa n = X at hI ⊢
  clear he
  go_enter Tryz.func116, Tryz.ntmps116
  go_wp2_with fail
  refine hI.mono ?_
  rintro e w1 ⟨rfl, hb1⟩
  go_wp2_with fail
  go_ret
  exact ⟨rfl, hb1⟩

/-- plain.Number. -/
def pnum (l : Bs) : Option Int := match Lib.atoiAll l with | .ok v => if Lib.itoa v = l then some v else none | _ => none
theorem str_neq (a b : Bs) (h : a = b) : (⟨a.toArray⟩ : ByteArray) = ⟨b.toArray⟩ := by rw [h]

set_option maxHeartbeats 1000000 in
theorem plain_Number (l : Bs) (hl : l.length ≤ 140737488355328) (G : Nat) (w : World) (he : Env G w) :
    Calls Tryz.prog 85 #[St l] w fun e w' => e = .returned (match pnum l with | some v => .tuple #[.int .i64 v, .bool true] | none => .tuple #[.int .i64 0, .bool false]) ∧ Below w.heap.size w w' := by
  have HE := Lib.hid he
  by_cases hok : ∃ v, Lib.atoiAll l = .ok v
  · obtain ⟨v, hv⟩ := hok
    obtain ⟨v0, v1⟩ := Lib.atoiAll_bounds hv
    have hA := str_Atoi_ok l hl v hv w
    have hT := fun w' (h : Env G w') => plain_Text v v0 v1 G w' h
    by_cases ht : Lib.itoa v = l
    · have HR : Hid (pnum l = some v) := by show pnum l = _; unfold pnum; rw [hv]; simp only [ht, if_true]
      rw [HR.out]
      rw [ht] at hT
      clear he hv ht HR
      go_enter Tryz.func85, Tryz.ntmps85
      go_wp2_with fail
      refine hA.mono ?_
      rintro e w1 ⟨rfl, hb1⟩
      go_wp2_with fail
      refine (hT _ (HE.out.own hb1)).mono ?_
      rintro e w2 ⟨rfl, hb2⟩
      go_wp2_with fail
      go_ret2
      exact ⟨rfl, below_call hb1 hb2 hb1.size⟩
    · have HR : Hid (pnum l = none) := by show pnum l = _; unfold pnum; rw [hv]; simp only [ht, if_false]
      rw [HR.out]
      generalize Lib.itoa v = X at hT ht
      have ht2 : (X == l) = false := by simpa using ht
      clear he hv HR ht
      go_enter Tryz.func85, Tryz.ntmps85
      go_wp2_with fail
      refine hA.mono ?_
      rintro e w1 ⟨rfl, hb1⟩
      go_wp2_with fail
      refine (hT _ (HE.out.own hb1)).mono ?_
      rintro e w2 ⟨rfl, hb2⟩
      go_wp2_with fail
      go_ret2
      exact ⟨rfl, below_call hb1 hb2 hb1.size⟩
  · have hno : ∀ v, Lib.atoiAll l ≠ .ok v := fun v h => hok ⟨v, h⟩
    have HR : Hid (pnum l = none) := by
      show pnum l = _
      unfold pnum
      split
      · rename_i v h; exact absurd h (hno v)
      · rfl
    rw [HR.out]
    have hA := str_Atoi_no l hl hno G w he
    clear he hok hno HR
    go_enter Tryz.func85, Tryz.ntmps85
    go_wp2_with fail
    refine hA.mono ?_
    rintro e w1 ⟨⟨k, T, x, rfl⟩, hb1⟩
    go_wp2_with fail
    go_ret2
    exact ⟨rfl, hb1⟩
end Go.Proofs.YtbmonfcahhhdeaaGreatDoor
