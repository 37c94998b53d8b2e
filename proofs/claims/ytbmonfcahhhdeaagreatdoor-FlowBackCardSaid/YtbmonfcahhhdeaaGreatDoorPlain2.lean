/- The walks of package plain: Resolve, Is. -/
import Derived.Test.YtbmonfcahhhdeaaGreatDoorPlain1
set_option linter.unusedVariables false
set_option linter.unusedSimpArgs false
namespace Go.Proofs.YtbmonfcahhhdeaaGreatDoor
open Go.RowKit

def bNull : Bs := [110, 117, 108, 108]
def bTrue : Bs := [116, 114, 117, 101]
def bFalse : Bs := [102, 97, 108, 115, 101]
/-- plain.Resolve. -/
def presolve (l : Bs) : Int :=
  if l.isEmpty || l == [126] || l == bNull then 1 else if l == bTrue || l == bFalse then 2 else if (pnum l).isSome then 3 else 4

set_option maxHeartbeats 2000000 in
theorem plain_Resolve (l : Bs) (hl : l.length ≤ 140737488355328) (G : Nat) (w : World) (he : Env G w) :
    Calls Tryz.prog 40 #[St l] w fun e w' => e = .returned (.int .i64 (presolve l)) ∧ Below w.heap.size w w' := by
  have hN := plain_Number l hl G w he
  by_cases c0 : l = []
  · subst c0
    clear he hN
    go_enter Tryz.func40, Tryz.ntmps40
    go_wp2_with fail
    go_ret
    exact ⟨rfl, Below.refl _ _⟩
  by_cases c1 : l = [126]
  · subst c1
    clear he hN
    go_enter Tryz.func40, Tryz.ntmps40
    go_wp2_with fail
    go_ret
    exact ⟨rfl, Below.refl _ _⟩
  by_cases c2 : l = bNull
  · subst c2
    unfold bNull
    clear he hN
    go_enter Tryz.func40, Tryz.ntmps40
    go_wp2_with fail
    go_ret
    exact ⟨rfl, Below.refl _ _⟩
  by_cases c3 : l = bTrue
  · subst c3
    unfold bTrue
    clear he hN
    go_enter Tryz.func40, Tryz.ntmps40
    go_wp2_with fail
    go_ret
    exact ⟨rfl, Below.refl _ _⟩
  by_cases c4 : l = bFalse
  · subst c4
    unfold bFalse
    clear he hN
    go_enter Tryz.func40, Tryz.ntmps40
    go_wp2_with fail
    go_ret
    exact ⟨rfl, Below.refl _ _⟩
  have d0 : l.isEmpty = false := by simpa using c0
  have d1 : (l == [126]) = false := by simpa using c1
  have d2 : (l == [110, 117, 108, 108]) = false := by simpa [bNull] using c2
  have d3 : (l == [116, 114, 117, 101]) = false := by simpa [bTrue] using c3
  have d4 : (l == [102, 97, 108, 115, 101]) = false := by simpa [bFalse] using c4
  have HR : Hid (presolve l = if (pnum l).isSome then 3 else 4) := by
    show presolve l = _
    unfold presolve bNull bTrue bFalse
    rw [d0, d1, d2, d3, d4]
    rfl
  clear c0 c1 c2 c3 c4 he
  cases hp : pnum l with
  | some v =>
    rw [hp] at hN HR
    simp only [] at hN
    go_enter Tryz.func40, Tryz.ntmps40
    go_wp2_with fail
    refine hN.mono ?_
    rintro e w1 ⟨rfl, hb1⟩
    go_wp2_with fail
    go_ret
    exact ⟨by rw [HR.out]; rfl, hb1⟩
  | none =>
    rw [hp] at hN HR
    simp only [] at hN
    go_enter Tryz.func40, Tryz.ntmps40
    go_wp2_with fail
    refine hN.mono ?_
    rintro e w1 ⟨rfl, hb1⟩
    go_wp2_with fail
    go_ret
    exact ⟨by rw [HR.out]; rfl, hb1⟩

def marks : Bs := [63, 58, 44, 91, 93, 123, 125, 35, 38, 42, 33, 124, 62, 39, 34, 37, 64, 96]
def dashes : Bs := [45, 45, 45]
/-- plain.Is. -/
def pis (l : Bs) (f : Bool) : Bool :=
  !(l.isEmpty || l == dashes || !(trim l [32] == l) || !(ucheck l == (0, 0))) &&
  !(marks.contains (l.getD 0 0) || (l.getD 0 0 == 45 && isGap (l.drop 1) f)) &&
  !(!(trim l [9, 10, 13] == l) || l.contains 9 || l.contains 10 || l.contains 13) && (pend l f == l.length)

theorem ucheck_cases (l : Bs) : (ucheck l = (0, 0) ∧ uw printable l = l.length) ∨ (∃ k : Nat, ucheck l = (8, (k : Int)) ∧ uw printable l = k ∧ k < l.length) := by
  have h := uw_le printable l
  unfold ucheck uflt
  by_cases c : uw printable l < l.length
  · exact .inr ⟨_, by rw [if_pos c], rfl, c⟩
  · exact .inl ⟨by rw [if_neg c], by omega⟩

/-- The walk of Is behind the first test. -/
theorem pis_first {l : Bs} {f : Bool} (h : (l.isEmpty || l == dashes || !(trim l [32] == l) || !(ucheck l == (0, 0))) = true) : pis l f = false := by
  unfold pis; rw [h]; rfl
theorem pis_marks {l : Bs} {f : Bool} (h : (marks.contains (l.getD 0 0) || (l.getD 0 0 == 45 && isGap (l.drop 1) f)) = true) : pis l f = false := by
  unfold pis; rw [h]; simp
theorem pis_tabs {l : Bs} {f : Bool} (h : (!(trim l [9, 10, 13] == l) || l.contains 9 || l.contains 10 || l.contains 13) = true) : pis l f = false := by
  unfold pis; rw [h]; simp

set_option maxHeartbeats 4000000 in
theorem plain_Is (l : Bs) (f : Bool) (hl : l.length ≤ 140737488355328) (G : Nat) (w : World) (he : Env G w) :
    Calls Tryz.prog 39 #[St l, .bool f] w fun e w' => e = .returned (.bool (pis l f)) ∧ Below w.heap.size w w' := by
  by_cases c0 : l = []
  · subst c0
    have HR : Hid (pis [] f = false) := pis_first rfl
    clear he
    go_enter Tryz.func39, Tryz.ntmps39
    go_wp2_with fail
    go_ret
    exact ⟨by rw [HR.out]; rfl, Below.refl _ _⟩
  by_cases c1 : l = dashes
  · subst c1
    have HR : Hid (pis dashes f = false) := pis_first (by decide)
    unfold dashes at HR ⊢
    clear he
    go_enter Tryz.func39, Tryz.ntmps39
    go_wp2_with fail
    go_ret
    exact ⟨by rw [HR.out]; rfl, Below.refl _ _⟩
  have d0 : l.isEmpty = false := by simpa using c0
  have d1 : (l == [45, 45, 45]) = false := by simpa [dashes] using c1
  have hT := str_Trim l [32] hl (by decide) (by decide) w
  by_cases c2 : trim l [32] = l
  case neg =>
    have HR : Hid (pis l f = false) := pis_first (by simp [c2])
    generalize trim l [32] = X at hT c2
    have d2 : (X == l) = false := by simpa using c2
    clear c0 c1 c2 he
    go_enter Tryz.func39, Tryz.ntmps39
    go_wp2_with fail
    refine hT.mono ?_
    rintro e w1 ⟨rfl, hb1⟩
    go_wp2_with fail
    go_ret
    exact ⟨by rw [HR.out]; rfl, hb1⟩
  rw [c2] at hT
  have hU := fun w' (h : Env G w') => utf_Check l G w' hl h
  have HE := Lib.hid he
  clear he
  rcases ucheck_cases l with ⟨c3, -⟩ | ⟨k, c3, -, -⟩
  case inr =>
    have HR : Hid (pis l f = false) := pis_first (by rw [c3]; simp)
    rw [c3] at hU
    clear c0 c1 c2 c3
    go_enter Tryz.func39, Tryz.ntmps39
    go_wp2_with fail
    refine hT.mono ?_
    rintro e w1 ⟨rfl, hb1⟩
    go_wp2_with fail
    refine (hU _ (HE.out.own hb1)).mono ?_
    rintro e w2 ⟨rfl, hb2⟩
    go_wp2_with fail
    go_ret
    exact ⟨by rw [HR.out]; rfl, below_call hb1 hb2 hb1.size⟩
  rw [c3] at hU
  simp only [] at hU
  have hP1 : (l.isEmpty || l == dashes || !(trim l [32] == l) || !(ucheck l == (0, 0))) = false := by
    rw [d0, show (l == dashes) = false from d1, c2, c3]; simp
  obtain ⟨b, t, rfl⟩ := List.exists_cons_of_ne_nil c0
  clear c0 c1 c2 c3
  cases c4 : marks.contains b with
  | true =>
    have HR : Hid (pis (b :: t) f = false) := pis_marks (by show (marks.contains b || _) = true; rw [c4]; rfl)
    have hI := fun w' => str_IndexByte_yes marks b w' c4
    unfold marks at hI
    clear c4 hP1
    go_enter Tryz.func39, Tryz.ntmps39
    go_wp2_with fail
    refine hT.mono ?_
    rintro e w1 ⟨rfl, hb1⟩
    go_wp2_with fail
    refine (hU _ (HE.out.own hb1)).mono ?_
    rintro e w2 ⟨rfl, hb2⟩
    go_wp2_with fail
    refine (hI _).mono ?_
    rintro e w3 ⟨⟨k, hk, rfl⟩, rfl⟩
    go_wp2_with fail
    go_ret
    exact ⟨by rw [HR.out]; rfl, below_call hb1 hb2 hb1.size⟩
  | false =>
    have hI := fun w' => str_IndexByte_no marks b w' c4
    have hG := plain_isGap t f
    by_cases c5 : b = 45 ∧ isGap t f = true
    · obtain ⟨rfl, c6⟩ := c5
      have HR : Hid (pis (45 :: t) f = false) := pis_marks (by show (_ || (true && isGap t f)) = true; rw [c6]; simp)
      rw [c6] at hG
      unfold marks at hI
      clear c4 hP1 c6
      go_enter Tryz.func39, Tryz.ntmps39
      go_wp2_with fail
      refine hT.mono ?_
      rintro e w1 ⟨rfl, hb1⟩
      go_wp2_with fail
      refine (hU _ (HE.out.own hb1)).mono ?_
      rintro e w2 ⟨rfl, hb2⟩
      go_wp2_with fail
      refine (hI _).mono ?_
      rintro e w3 ⟨rfl, rfl⟩
      go_wp2_with fail
      refine (hG _).mono ?_
      rintro e w4 ⟨rfl, rfl⟩
      go_wp2_with fail
      go_ret
      exact ⟨by rw [HR.out]; rfl, below_call hb1 hb2 hb1.size⟩
    have hP2 : (marks.contains ((b :: t).getD 0 0) || ((b :: t).getD 0 0 == 45 && isGap ((b :: t).drop 1) f)) = false := by
      show (marks.contains b || (b == 45 && isGap t f)) = false
      rw [c4]
      by_cases h : b = 45
      · have : isGap t f = false := by simpa [h] using c5
        rw [this]; simp
      · rw [show (b == 45) = false from by simpa using h]; rfl
    have hT2 := fun w' => str_Trim (b :: t) [9, 10, 13] hl (by decide) (by decide) w'
    have hI9 := fun w' => str_IndexByte (b :: t) 9 w'
    have hIa := fun w' => str_IndexByte (b :: t) 10 w'
    have hId := fun w' => str_IndexByte (b :: t) 13 w'
    have k9 := indexByte_neg (b :: t) 9
    have ka := indexByte_neg (b :: t) 10
    have kd := indexByte_neg (b :: t) 13
    generalize Lib.indexByte (b :: t) 9 = i9 at hI9 k9
    generalize Lib.indexByte (b :: t) 10 = ia at hIa ka
    generalize Lib.indexByte (b :: t) 13 = id at hId kd
    have HP3 : Hid ((!(trim (b :: t) [9, 10, 13] == b :: t) || (b :: t).contains 9 || (b :: t).contains 10 || (b :: t).contains 13) = true → pis (b :: t) f = false) := pis_tabs
    have hEnd := plain_end (b :: t) f hl
    have HP4 : Hid ((!(trim (b :: t) [9, 10, 13] == b :: t) || (b :: t).contains 9 || (b :: t).contains 10 || (b :: t).contains 13) = false → pis (b :: t) f = decide ((pend (b :: t) f : Int) = ((b :: t).length : Int))) := by
      intro h
      unfold pis
      rw [hP1, hP2, h]
      simp only [Bool.not_false, Bool.true_and]
      rw [Bool.eq_iff_iff, beq_iff_eq, decide_eq_true_eq]
      omega
    generalize pend (b :: t) f = pe at hEnd HP4
    have K9 := Lib.hid k9
    have Ka := Lib.hid ka
    have Kd := Lib.hid kd
    clear hP1 hP2 c4 k9 ka kd
    have hG2 : b = 45 → isGap t f = false := fun h => by simpa [h] using c5
    by_cases c7 : trim (b :: t) [9, 10, 13] = b :: t
    case neg =>
      have HR : Hid (pis (b :: t) f = false) := HP3.out (by simp [c7])
      generalize trim (b :: t) [9, 10, 13] = X at hT2 c7 HP3 HP4
      have d7 : (X == b :: t) = false := by simpa using c7
      by_cases c8 : b = 45
      · rw [hG2 c8] at hG
        subst c8
        unfold marks at hI
        clear c7 hG2 c5
        go_enter Tryz.func39, Tryz.ntmps39
        go_wp2_with fail
        refine hT.mono ?_
        rintro e w1 ⟨rfl, hb1⟩
        go_wp2_with fail
        refine (hU _ (HE.out.own hb1)).mono ?_
        rintro e w2 ⟨rfl, hb2⟩
        go_wp2_with fail
        refine (hI _).mono ?_
        rintro e w3 ⟨rfl, rfl⟩
        go_wp2_with fail
        refine (hG _).mono ?_
        rintro e w4 ⟨rfl, rfl⟩
        go_wp2_with fail
        refine (hT2 _).mono ?_
        rintro e w5 ⟨rfl, hb5⟩
        go_wp2_with fail
        go_ret
        exact ⟨by rw [HR.out]; rfl, below_call (below_call hb1 hb2 hb1.size) hb5 (Nat.le_trans hb1.size hb2.size)⟩
      · have d8 : ((b.toNat : Int) == 45) = false := ne_u8 (n := 45) (by decide) c8
        unfold marks at hI
        clear c7 hG2 c5 c8 hG
        go_enter Tryz.func39, Tryz.ntmps39
        go_wp2_with fail
        refine hT.mono ?_
        rintro e w1 ⟨rfl, hb1⟩
        go_wp2_with fail
        refine (hU _ (HE.out.own hb1)).mono ?_
        rintro e w2 ⟨rfl, hb2⟩
        go_wp2_with fail
        refine (hI _).mono ?_
        rintro e w3 ⟨rfl, rfl⟩
        go_wp2_with fail
        refine (hT2 _).mono ?_
        rintro e w5 ⟨rfl, hb5⟩
        go_wp2_with fail
        go_ret
        exact ⟨by rw [HR.out]; rfl, below_call (below_call hb1 hb2 hb1.size) hb5 (Nat.le_trans hb1.size hb2.size)⟩
    rw [c7] at hT2
    obtain ⟨q9, r9, -⟩ := K9.out
    obtain ⟨qa, ra, -⟩ := Ka.out
    obtain ⟨qd, rd, -⟩ := Kd.out
    have HQ := Lib.hid (And.intro q9 (And.intro qa qd))
    have HC := Lib.hid c7
    clear q9 qa qd c7 K9 Ka Kd
    by_cases c8 : b = 45
    · rw [hG2 c8] at hG
      subst c8
      unfold marks at hI
      clear hG2 c5
      by_cases zi9 : 0 ≤ i9
      · have HR : Hid (pis (45 :: t) f = false) := HP3.out (by have := HQ.out.1.1 zi9; simp only [this, Bool.or_true, Bool.true_or])
        go_enter Tryz.func39, Tryz.ntmps39
        go_wp2_with fail
        refine hT.mono ?_
        rintro e w1 ⟨rfl, hb1⟩
        go_wp2_with fail
        refine (hU _ (HE.out.own hb1)).mono ?_
        rintro e w2 ⟨rfl, hb2⟩
        go_wp2_with fail
        refine (hI _).mono ?_
        rintro e w3 ⟨rfl, rfl⟩
        go_wp2_with fail
        refine (hG _).mono ?_
        rintro e w4 ⟨rfl, rfl⟩
        go_wp2_with fail
        refine (hT2 _).mono ?_
        rintro e w5 ⟨rfl, hb5⟩
        go_wp2_with fail
        refine (hI9 _).mono ?_
        rintro e w6 ⟨rfl, rfl⟩
        go_wp2_with fail
        go_ret
        exact ⟨by rw [HR.out]; rfl, below_call (below_call hb1 hb2 hb1.size) hb5 (Nat.le_trans hb1.size hb2.size)⟩
      have yi9 : i9 = -1 := by omega
      subst yi9
      clear zi9 r9
      by_cases zia : 0 ≤ ia
      · have HR : Hid (pis (45 :: t) f = false) := HP3.out (by have := HQ.out.2.1.1 zia; simp only [this, Bool.or_true, Bool.true_or])
        go_enter Tryz.func39, Tryz.ntmps39
        go_wp2_with fail
        refine hT.mono ?_
        rintro e w1 ⟨rfl, hb1⟩
        go_wp2_with fail
        refine (hU _ (HE.out.own hb1)).mono ?_
        rintro e w2 ⟨rfl, hb2⟩
        go_wp2_with fail
        refine (hI _).mono ?_
        rintro e w3 ⟨rfl, rfl⟩
        go_wp2_with fail
        refine (hG _).mono ?_
        rintro e w4 ⟨rfl, rfl⟩
        go_wp2_with fail
        refine (hT2 _).mono ?_
        rintro e w5 ⟨rfl, hb5⟩
        go_wp2_with fail
        refine (hI9 _).mono ?_
        rintro e w6 ⟨rfl, rfl⟩
        go_wp2_with fail
        refine (hIa _).mono ?_
        rintro e w6 ⟨rfl, rfl⟩
        go_wp2_with fail
        go_ret
        exact ⟨by rw [HR.out]; rfl, below_call (below_call hb1 hb2 hb1.size) hb5 (Nat.le_trans hb1.size hb2.size)⟩
      have yia : ia = -1 := by omega
      subst yia
      clear zia ra
      by_cases zid : 0 ≤ id
      · have HR : Hid (pis (45 :: t) f = false) := HP3.out (by have := HQ.out.2.2.1 zid; simp only [this, Bool.or_true, Bool.true_or])
        go_enter Tryz.func39, Tryz.ntmps39
        go_wp2_with fail
        refine hT.mono ?_
        rintro e w1 ⟨rfl, hb1⟩
        go_wp2_with fail
        refine (hU _ (HE.out.own hb1)).mono ?_
        rintro e w2 ⟨rfl, hb2⟩
        go_wp2_with fail
        refine (hI _).mono ?_
        rintro e w3 ⟨rfl, rfl⟩
        go_wp2_with fail
        refine (hG _).mono ?_
        rintro e w4 ⟨rfl, rfl⟩
        go_wp2_with fail
        refine (hT2 _).mono ?_
        rintro e w5 ⟨rfl, hb5⟩
        go_wp2_with fail
        refine (hI9 _).mono ?_
        rintro e w6 ⟨rfl, rfl⟩
        go_wp2_with fail
        refine (hIa _).mono ?_
        rintro e w6 ⟨rfl, rfl⟩
        go_wp2_with fail
        refine (hId _).mono ?_
        rintro e w6 ⟨rfl, rfl⟩
        go_wp2_with fail
        go_ret
        exact ⟨by rw [HR.out]; rfl, below_call (below_call hb1 hb2 hb1.size) hb5 (Nat.le_trans hb1.size hb2.size)⟩
      have yid : id = -1 := by omega
      subst yid
      clear zid rd
      have HR : Hid (pis (45 :: t) f = decide ((pe : Int) = ((45 :: t).length : Int))) := HP4.out (by
        have e1 : (45 :: t).contains 9 = false := by cases h : (45 :: t).contains 9 with | false => rfl | true => exact absurd (HQ.out.1.2 h) (by decide)
        have e2 : (45 :: t).contains 10 = false := by cases h : (45 :: t).contains 10 with | false => rfl | true => exact absurd (HQ.out.2.1.2 h) (by decide)
        have e3 : (45 :: t).contains 13 = false := by cases h : (45 :: t).contains 13 with | false => rfl | true => exact absurd (HQ.out.2.2.2 h) (by decide)
        rw [e1, e2, e3, HC.out]; simp)
      clear HP3 HP4
      go_enter Tryz.func39, Tryz.ntmps39
      go_wp2_with fail
      refine hT.mono ?_
      rintro e w1 ⟨rfl, hb1⟩
      go_wp2_with fail
      refine (hU _ (HE.out.own hb1)).mono ?_
      rintro e w2 ⟨rfl, hb2⟩
      go_wp2_with fail
      refine (hI _).mono ?_
      rintro e w3 ⟨rfl, rfl⟩
      go_wp2_with fail
      refine (hG _).mono ?_
      rintro e w4 ⟨rfl, rfl⟩
      go_wp2_with fail
      refine (hT2 _).mono ?_
      rintro e w5 ⟨rfl, hb5⟩
      go_wp2_with fail
      refine (hI9 _).mono ?_
      rintro e w6 ⟨rfl, rfl⟩
      go_wp2_with fail
      refine (hIa _).mono ?_
      rintro e w6 ⟨rfl, rfl⟩
      go_wp2_with fail
      refine (hId _).mono ?_
      rintro e w6 ⟨rfl, rfl⟩
      go_wp2_with fail
      refine (hEnd _).mono ?_
      rintro e w7 ⟨rfl, hb7⟩
      go_wp2_with fail
      go_ret
      exact ⟨by rw [HR.out]; rfl, below_call (below_call (below_call hb1 hb2 hb1.size) hb5 (Nat.le_trans hb1.size hb2.size)) hb7 (by have := hb1.size; have := hb2.size; have := hb5.size; omega)⟩
    · have d8 : ((b.toNat : Int) == 45) = false := ne_u8 (n := 45) (by decide) c8
      unfold marks at hI
      clear hG2 c5 c8 hG
      by_cases zi9 : 0 ≤ i9
      · have HR : Hid (pis (b :: t) f = false) := HP3.out (by have := HQ.out.1.1 zi9; simp only [this, Bool.or_true, Bool.true_or])
        go_enter Tryz.func39, Tryz.ntmps39
        go_wp2_with fail
        refine hT.mono ?_
        rintro e w1 ⟨rfl, hb1⟩
        go_wp2_with fail
        refine (hU _ (HE.out.own hb1)).mono ?_
        rintro e w2 ⟨rfl, hb2⟩
        go_wp2_with fail
        refine (hI _).mono ?_
        rintro e w3 ⟨rfl, rfl⟩
        go_wp2_with fail
        refine (hT2 _).mono ?_
        rintro e w5 ⟨rfl, hb5⟩
        go_wp2_with fail
        refine (hI9 _).mono ?_
        rintro e w6 ⟨rfl, rfl⟩
        go_wp2_with fail
        go_ret
        exact ⟨by rw [HR.out]; rfl, below_call (below_call hb1 hb2 hb1.size) hb5 (Nat.le_trans hb1.size hb2.size)⟩
      have yi9 : i9 = -1 := by omega
      subst yi9
      clear zi9 r9
      by_cases zia : 0 ≤ ia
      · have HR : Hid (pis (b :: t) f = false) := HP3.out (by have := HQ.out.2.1.1 zia; simp only [this, Bool.or_true, Bool.true_or])
        go_enter Tryz.func39, Tryz.ntmps39
        go_wp2_with fail
        refine hT.mono ?_
        rintro e w1 ⟨rfl, hb1⟩
        go_wp2_with fail
        refine (hU _ (HE.out.own hb1)).mono ?_
        rintro e w2 ⟨rfl, hb2⟩
        go_wp2_with fail
        refine (hI _).mono ?_
        rintro e w3 ⟨rfl, rfl⟩
        go_wp2_with fail
        refine (hT2 _).mono ?_
        rintro e w5 ⟨rfl, hb5⟩
        go_wp2_with fail
        refine (hI9 _).mono ?_
        rintro e w6 ⟨rfl, rfl⟩
        go_wp2_with fail
        refine (hIa _).mono ?_
        rintro e w6 ⟨rfl, rfl⟩
        go_wp2_with fail
        go_ret
        exact ⟨by rw [HR.out]; rfl, below_call (below_call hb1 hb2 hb1.size) hb5 (Nat.le_trans hb1.size hb2.size)⟩
      have yia : ia = -1 := by omega
      subst yia
      clear zia ra
      by_cases zid : 0 ≤ id
      · have HR : Hid (pis (b :: t) f = false) := HP3.out (by have := HQ.out.2.2.1 zid; simp only [this, Bool.or_true, Bool.true_or])
        go_enter Tryz.func39, Tryz.ntmps39
        go_wp2_with fail
        refine hT.mono ?_
        rintro e w1 ⟨rfl, hb1⟩
        go_wp2_with fail
        refine (hU _ (HE.out.own hb1)).mono ?_
        rintro e w2 ⟨rfl, hb2⟩
        go_wp2_with fail
        refine (hI _).mono ?_
        rintro e w3 ⟨rfl, rfl⟩
        go_wp2_with fail
        refine (hT2 _).mono ?_
        rintro e w5 ⟨rfl, hb5⟩
        go_wp2_with fail
        refine (hI9 _).mono ?_
        rintro e w6 ⟨rfl, rfl⟩
        go_wp2_with fail
        refine (hIa _).mono ?_
        rintro e w6 ⟨rfl, rfl⟩
        go_wp2_with fail
        refine (hId _).mono ?_
        rintro e w6 ⟨rfl, rfl⟩
        go_wp2_with fail
        go_ret
        exact ⟨by rw [HR.out]; rfl, below_call (below_call hb1 hb2 hb1.size) hb5 (Nat.le_trans hb1.size hb2.size)⟩
      have yid : id = -1 := by omega
      subst yid
      clear zid rd
      have HR : Hid (pis (b :: t) f = decide ((pe : Int) = ((b :: t).length : Int))) := HP4.out (by
        have e1 : (b :: t).contains 9 = false := by cases h : (b :: t).contains 9 with | false => rfl | true => exact absurd (HQ.out.1.2 h) (by decide)
        have e2 : (b :: t).contains 10 = false := by cases h : (b :: t).contains 10 with | false => rfl | true => exact absurd (HQ.out.2.1.2 h) (by decide)
        have e3 : (b :: t).contains 13 = false := by cases h : (b :: t).contains 13 with | false => rfl | true => exact absurd (HQ.out.2.2.2 h) (by decide)
        rw [e1, e2, e3, HC.out]; simp)
      clear HP3 HP4
      go_enter Tryz.func39, Tryz.ntmps39
      go_wp2_with fail
      refine hT.mono ?_
      rintro e w1 ⟨rfl, hb1⟩
      go_wp2_with fail
      refine (hU _ (HE.out.own hb1)).mono ?_
      rintro e w2 ⟨rfl, hb2⟩
      go_wp2_with fail
      refine (hI _).mono ?_
      rintro e w3 ⟨rfl, rfl⟩
      go_wp2_with fail
      refine (hT2 _).mono ?_
      rintro e w5 ⟨rfl, hb5⟩
      go_wp2_with fail
      refine (hI9 _).mono ?_
      rintro e w6 ⟨rfl, rfl⟩
      go_wp2_with fail
      refine (hIa _).mono ?_
      rintro e w6 ⟨rfl, rfl⟩
      go_wp2_with fail
      refine (hId _).mono ?_
      rintro e w6 ⟨rfl, rfl⟩
      go_wp2_with fail
      refine (hEnd _).mono ?_
      rintro e w7 ⟨rfl, hb7⟩
      go_wp2_with fail
      go_ret
      exact ⟨by rw [HR.out]; rfl, below_call (below_call (below_call hb1 hb2 hb1.size) hb5 (Nat.le_trans hb1.size hb2.size)) hb7 (by have := hb1.size; have := hb2.size; have := hb5.size; omega)⟩
end Go.Proofs.YtbmonfcahhhdeaaGreatDoor
