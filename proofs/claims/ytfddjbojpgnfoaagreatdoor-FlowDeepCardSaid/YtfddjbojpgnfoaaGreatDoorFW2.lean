/- The walks of flow.isScalar, Name, isText. The walk of flow.Scalar. -/
import Derived.Test.YtfddjbojpgnfoaaGreatDoorPlain2
import Derived.Test.YtfddjbojpgnfoaaGreatDoorUtf3
import Derived.Test.YtfddjbojpgnfoaaGreatDoorQuote4
set_option linter.unusedVariables false
set_option linter.unusedSimpArgs false
namespace Go.Proofs.YtfddjbojpgnfoaaGreatDoor
open Go.RowKit

def isSc (k : Int) : Bool := decide (1 ≤ k) && decide (k ≤ 4)
set_option maxHeartbeats 400000 in
theorem flow_isScalar (k : Int) (w : World) :
    Calls Tryz.prog 45 #[.int .i64 k] w fun e w' => e = .returned (.bool (isSc k)) ∧ w' = w := by
  by_cases h1 : 1 ≤ k
  · by_cases h2 : k ≤ 4
    · have hR : Hid (isSc k = true) := by show _ = _; simp [isSc, h1, h2]
      rw [hR.out]
      go_enter Tryz.func45, Tryz.ntmps45
      go_wp2_with fail
      go_ret
      exact ⟨rfl, rfl⟩
    · have hR : Hid (isSc k = false) := by show _ = _; simp [isSc, h1, h2]
      rw [hR.out]
      go_enter Tryz.func45, Tryz.ntmps45
      go_wp2_with fail
      go_ret
      exact ⟨rfl, rfl⟩
  · have hR : Hid (isSc k = false) := by show _ = _; simp [isSc, h1]
    rw [hR.out]
    go_enter Tryz.func45, Tryz.ntmps45
    go_wp2_with fail
    go_ret
    exact ⟨rfl, rfl⟩

/-- The signs of names. -/
def nameSet : Bs := [97, 98, 99, 100, 101, 102, 103, 104, 105, 106, 107, 108, 109, 110, 111, 112, 113, 114, 115, 116, 117, 118, 119, 120, 121, 122, 65, 66, 67, 68, 69, 70, 71, 72, 73, 74, 75, 76, 77, 78, 79, 80, 81, 82, 83, 84, 85, 86, 87, 88, 89, 90, 48, 49, 50, 51, 52, 53, 54, 55, 56, 57, 45, 95]
def isName (l : Bs) : Bool := !l.isEmpty && decide (l.length ≤ 32) && (trim l nameSet).isEmpty
set_option maxHeartbeats 1000000 in
theorem flow_Name (l : Bs) (hl : l.length ≤ 140737488355328) (w : World) :
    Calls Tryz.prog 44 #[St l] w fun e w' => e = .returned (.bool (isName l)) ∧ Below w.heap.size w w' := by
  cases l with
  | nil =>
    go_enter Tryz.func44, Tryz.ntmps44
    go_wp2_with fail
    go_ret
    exact ⟨rfl, Below.refl _ _⟩
  | cons b t =>
    by_cases h1 : (b :: t).length ≤ 32
    · have hT := str_Trim (b :: t) nameSet hl (by decide) (by kernel_rfl) w
      have h1' : (t.length : Int) + 1 ≤ 32 := by simp at h1; omega
      cases hX : trim (b :: t) nameSet with
      | nil =>
        have hR : Hid (isName (b :: t) = true) := by show _ = _; unfold isName; rw [hX]; simp; simpa using h1
        rw [hX] at hT
        rw [hR.out]
        clear hX h1 hl hR
        go_enter Tryz.func44, Tryz.ntmps44
        go_wp2_with fail
        refine hT.mono ?_
        rintro e w1 ⟨rfl, hb⟩
        go_wp2_with fail
        go_ret
        exact ⟨rfl, hb⟩
      | cons x y =>
        have hR : Hid (isName (b :: t) = false) := by show _ = _; unfold isName; rw [hX]; simp
        rw [hX] at hT
        rw [hR.out]
        clear hX h1 hl hR
        go_enter Tryz.func44, Tryz.ntmps44
        go_wp2_with fail
        refine hT.mono ?_
        rintro e w1 ⟨rfl, hb⟩
        go_wp2_with fail
        go_ret
        exact ⟨rfl, hb⟩
    · have hR : Hid (isName (b :: t) = false) := by show _ = _; unfold isName; rw [decide_eq_false h1]; simp
      have h1' : ¬ ((t.length : Int) + 1 ≤ 32) := by simp at h1; omega
      rw [hR.out]
      clear h1 hl hR
      go_enter Tryz.func44, Tryz.ntmps44
      go_wp2_with fail
      go_ret
      exact ⟨rfl, Below.refl _ _⟩

/-- May a text be a kind's? -/
def isTextB (k : Int) (s : Bs) : Bool := if k = 2 ∨ k = 3 then decide (presolve s = k) else if k = 4 then decide (uw nonneg s = s.length) else s.isEmpty
theorem uw_cases (s : Bs) : uw nonneg s = s.length ∨ uw nonneg s < s.length := by have := uw_le nonneg s; omega
set_option maxHeartbeats 1000000 in
theorem flow_isText (k : Int) (s : Bs) (hl : s.length ≤ 4294967296) (G : Nat) (w : World) (he : Env G w) :
    Calls Tryz.prog 43 #[.int .i64 k, St s] w fun e w' => e = .returned (.bool (isTextB k s)) ∧ Below w.heap.size w w' := by
  have hRs := plain_Resolve s (by omega) G w he
  by_cases h23 : k = 2 ∨ k = 3
  · have hR : Hid (isTextB k s = decide (presolve s = k)) := by show _ = _; unfold isTextB; rw [if_pos h23]
    rw [hR.out]
    clear hl he
    generalize presolve s = p at hRs ⊢
    rcases h23 with rfl | rfl
    · by_cases hp : p = 2
      · subst hp
        go_enter Tryz.func43, Tryz.ntmps43
        go_wp2_with fail
        refine hRs.mono ?_
        rintro e w1 ⟨rfl, hb⟩
        go_wp2_with fail
        go_ret
        exact ⟨rfl, hb⟩
      · have hB : (p == 2) = false := by simpa using hp
        have hD : Hid (decide (p = 2) = false) := by show _ = _; simpa using hp
        rw [hD.out]
        go_enter Tryz.func43, Tryz.ntmps43
        go_wp2_with fail
        refine hRs.mono ?_
        rintro e w1 ⟨rfl, hb⟩
        go_wp2_with fail
        go_ret
        exact ⟨rfl, hb⟩
    · by_cases hp : p = 3
      · subst hp
        go_enter Tryz.func43, Tryz.ntmps43
        go_wp2_with fail
        refine hRs.mono ?_
        rintro e w1 ⟨rfl, hb⟩
        go_wp2_with fail
        go_ret
        exact ⟨rfl, hb⟩
      · have hB : (p == 3) = false := by simpa using hp
        have hD : Hid (decide (p = 3) = false) := by show _ = _; simpa using hp
        rw [hD.out]
        go_enter Tryz.func43, Tryz.ntmps43
        go_wp2_with fail
        refine hRs.mono ?_
        rintro e w1 ⟨rfl, hb⟩
        go_wp2_with fail
        go_ret
        exact ⟨rfl, hb⟩
  · by_cases h4 : k = 4
    · have hR : Hid (isTextB k s = decide (uw nonneg s = s.length)) := by show _ = _; unfold isTextB; rw [if_neg h23, if_pos h4]
      subst h4
      rcases uw_cases s with hu | hu
      · have hD := utf_Decode_ok s G w hl he hu
        rw [hR.out, decide_eq_true hu]
        clear hRs hl he hR hu h23
        go_enter Tryz.func43, Tryz.ntmps43
        go_wp2_with fail
        refine hD.mono ?_
        rintro e w1 ⟨⟨A, c, rfl, ho⟩, hb⟩
        go_wp2_with fail
        go_ret
        exact ⟨rfl, hb.alloc hb.size _⟩
      · have hD := utf_Decode_bad s G w hl he hu
        rw [hR.out, decide_eq_false (by omega)]
        clear hRs hl he hR h23
        generalize (uw nonneg s) = n at hD hu
        go_enter Tryz.func43, Tryz.ntmps43
        go_wp2_with fail
        refine hD.mono ?_
        rintro e w1 ⟨rfl, hb⟩
        go_wp2_with fail
        go_ret
        exact ⟨rfl, hb.alloc hb.size _⟩
    · have hR : Hid (isTextB k s = s.isEmpty) := by show _ = _; unfold isTextB; rw [if_neg h23, if_neg h4]
      rw [hR.out]
      have b2 : (k == 2) = false := by simp; omega
      have b3 : (k == 3) = false := by simp; omega
      have b4 : (k == 4) = false := by simp; omega
      clear hRs hl he hR h23 h4
      cases s with
      | nil =>
        go_enter Tryz.func43, Tryz.ntmps43
        go_wp2_with fail
        go_ret
        exact ⟨rfl, Below.refl _ _⟩
      | cons a t =>
        go_enter Tryz.func43, Tryz.ntmps43
        go_wp2_with fail
        go_ret
        exact ⟨rfl, Below.refl _ _⟩
end Go.Proofs.YtfddjbojpgnfoaaGreatDoor

namespace Go.Proofs.YtfddjbojpgnfoaaGreatDoor
open Go.RowKit

/-- A scalar's text. -/
def scalarS (k : Int) (s : Bs) (f : Bool) : Bs :=
  if k = 1 then [110, 117, 108, 108] else if k = 2 ∨ k = 3 then s else if k = 4 then (if pis s f = true ∧ presolve s = 4 then s else (qdouble s).getD []) else []
set_option maxHeartbeats 1000000 in
theorem flow_Scalar (k : Int) (s a : Bs) (A : Option Addr) (n c : Nat) (f : Bool) (hl : s.length ≤ 4294967296) (G : Nat) (w : World) (he : Env G w) :
    Calls Tryz.prog 24 #[.agg #[.int .i64 k, St s, St a, .slice A n c], .bool f] w fun e w' => e = .returned (St (scalarS k s f)) ∧ Below w.heap.size w w' := by
  obtain ⟨F, hF⟩ : ∃ F, w.heap.size = F := ⟨_, rfl⟩
  have hb0 : Below w.heap.size w (w.alloc (.cells #[.int .i64 k, St s, St a, .slice A n c] 25)) := (Below.refl _ _).alloc (Nat.le_refl _) _
  have hk0 : (w.alloc (.cells #[.int .i64 k, St s, St a, .slice A n c] 25)).heap[F]? = some (.cells #[.int .i64 k, St s, St a, .slice A n c] 25) := by rw [← hF]; exact blk_new _ _
  have HB := Lib.hid hb0
  by_cases h1 : k = 1
  · subst h1
    have hR : Hid (scalarS 1 s f = [110, 117, 108, 108]) := by show _ = _; rfl
    rw [hR.out]
    clear he hb0 hk0
    go_enter Tryz.func24, Tryz.ntmps24
    go_wp2_with fail
    go_ret
    exact ⟨rfl, HB.out⟩
  by_cases h2 : k = 2 ∨ k = 3
  · have hR : Hid (scalarS k s f = s) := by show _ = _; unfold scalarS; rw [if_neg h1, if_pos h2]
    rw [hR.out]
    clear he hb0 hk0 hR
    rcases h2 with rfl | rfl
    · go_enter Tryz.func24, Tryz.ntmps24
      go_wp2_with fail
      go_ret
      exact ⟨rfl, HB.out⟩
    · go_enter Tryz.func24, Tryz.ntmps24
      go_wp2_with fail
      go_ret
      exact ⟨rfl, HB.out⟩
  by_cases h4 : k = 4
  · subst h4
    have hI := fun w' he' => plain_Is s f (by omega) G w' he'
    have hRs := fun w' he' => plain_Resolve s (by omega) G w' he'
    have HE := Lib.hid he
    have hE1 := he.alloc (.cells #[.int .i64 4, St s, St a, .slice A n c] 25)
    cases hp : pis s f with
    | true =>
      rw [hp] at hI
      by_cases h44 : presolve s = 4
      · have hR : Hid (scalarS 4 s f = s) := by show _ = _; unfold scalarS; rw [if_neg (by decide), if_neg (by decide), if_pos rfl, if_pos ⟨hp, h44⟩]
        rw [hR.out]
        rw [h44] at hRs
        clear hR hp h44 he hl
        go_enter Tryz.func24, Tryz.ntmps24
        go_wp2_with fail
        refine (hI _ hE1).mono ?_
        rintro e w1 ⟨rfl, hb1⟩
        have hk1 := blk_below hk0 hb1 (by simp; omega)
        obtain ⟨d0, d1, d2, d3, g0, g1, g2, g3⟩ := cells4 hk1
        have HC := Lib.hid (And.intro hb1 hk1)
        clear hb0 hb1 hk1 hk0
        go_wp2_with fail
        refine (hRs _ (by exact hE1.own HC.out.1)).mono ?_
        rintro e w2 ⟨rfl, hb2⟩
        have hk2 := blk_below HC.out.2 hb2 (by have := HC.out.1.size; simp at this; omega)
        clear d0 d1 d2 d3 g0 g1 g2 g3
        obtain ⟨d0, d1, d2, d3, g0, g1, g2, g3⟩ := cells4 hk2
        have HD := Lib.hid hb2
        clear hb2 hk2
        go_wp2_with fail
        go_ret
        exact ⟨rfl, (HB.out.trans (HC.out.1.mono (by simp))).trans (HD.out.mono (by have := HC.out.1.size; simp at this; omega))⟩
      · have hR : Hid (scalarS 4 s f = (qdouble s).getD []) := by show _ = _; unfold scalarS; rw [if_neg (by decide), if_neg (by decide), if_pos rfl, if_neg (fun h => h44 h.2)]
        have hB4 : (presolve s == 4) = false := by simpa using h44
        have hDbl : ∀ w', Env G w' → ∃ y, Calls Tryz.prog 49 #[St s] w' fun e w'' => e = .returned (.tuple #[St ((qdouble s).getD []), .int .i64 y]) ∧ Below w'.heap.size w' w'' := fun w' he' => by
          cases hq : qdouble s with
          | none => exact ⟨8, quote_Double_bad s G w' hl he' hq⟩
          | some X => exact ⟨0, quote_Double_ok s X G w' hl he' hq⟩
        rw [hR.out]
        generalize (qdouble s).getD [] = X at hDbl ⊢
        generalize presolve s = p at hRs hB4
        clear hR hp h44 he hl
        go_enter Tryz.func24, Tryz.ntmps24
        go_wp2_with fail
        refine (hI _ hE1).mono ?_
        rintro e w1 ⟨rfl, hb1⟩
        have hk1 := blk_below hk0 hb1 (by simp; omega)
        obtain ⟨d0, d1, d2, d3, g0, g1, g2, g3⟩ := cells4 hk1
        have HC := Lib.hid (And.intro hb1 hk1)
        clear hb0 hb1 hk1 hk0
        go_wp2_with fail
        refine (hRs _ (by exact hE1.own HC.out.1)).mono ?_
        rintro e w2 ⟨rfl, hb2⟩
        have hk2 := blk_below HC.out.2 hb2 (by have := HC.out.1.size; simp at this; omega)
        clear d0 d1 d2 d3 g0 g1 g2 g3
        obtain ⟨d0, d1, d2, d3, g0, g1, g2, g3⟩ := cells4 hk2
        have HD := Lib.hid hb2
        clear hb2 hk2
        go_wp2_with fail
        obtain ⟨y, hY⟩ := hDbl w2 ((hE1.own HC.out.1).own HD.out)
        refine hY.mono ?_
        rintro e w3 ⟨rfl, hb3⟩
        go_wp2_with fail
        go_ret
        exact ⟨rfl, ((HB.out.trans (HC.out.1.mono (by simp))).trans (HD.out.mono (by have := HC.out.1.size; simp at this; omega))).trans (hb3.mono (by have := HC.out.1.size; have := HD.out.size; simp at *; omega))⟩
    | false =>
      have hR : Hid (scalarS 4 s f = (qdouble s).getD []) := by show _ = _; unfold scalarS; rw [if_neg (by decide), if_neg (by decide), if_pos rfl, if_neg (fun h => by rw [hp] at h; exact absurd h.1 (by decide))]
      have hDbl : ∀ w', Env G w' → ∃ y, Calls Tryz.prog 49 #[St s] w' fun e w'' => e = .returned (.tuple #[St ((qdouble s).getD []), .int .i64 y]) ∧ Below w'.heap.size w' w'' := fun w' he' => by
        cases hq : qdouble s with
        | none => exact ⟨8, quote_Double_bad s G w' hl he' hq⟩
        | some X => exact ⟨0, quote_Double_ok s X G w' hl he' hq⟩
      rw [hp] at hI
      rw [hR.out]
      generalize (qdouble s).getD [] = X at hDbl ⊢
      clear hR hp he hl hRs
      go_enter Tryz.func24, Tryz.ntmps24
      go_wp2_with fail
      refine (hI _ hE1).mono ?_
      rintro e w1 ⟨rfl, hb1⟩
      have hk1 := blk_below hk0 hb1 (by simp; omega)
      obtain ⟨d0, d1, d2, d3, g0, g1, g2, g3⟩ := cells4 hk1
      have HC := Lib.hid (And.intro hb1 hk1)
      clear hb0 hb1 hk1 hk0
      go_wp2_with fail
      obtain ⟨y, hY⟩ := hDbl w1 (hE1.own HC.out.1)
      refine hY.mono ?_
      rintro e w3 ⟨rfl, hb3⟩
      go_wp2_with fail
      go_ret
      exact ⟨rfl, (HB.out.trans (HC.out.1.mono (by simp))).trans (hb3.mono (by have := HC.out.1.size; simp at *; omega))⟩
  · have hR : Hid (scalarS k s f = []) := by show _ = _; unfold scalarS; rw [if_neg h1, if_neg h2, if_neg h4]
    have b1 : (k == 1) = false := by simpa using h1
    have b2 : (k == 2) = false := by simp; omega
    have b3 : (k == 3) = false := by simp; omega
    have b4 : (k == 4) = false := by simpa using h4
    rw [hR.out]
    clear he hb0 hk0 hR h1 h2 h4
    go_enter Tryz.func24, Tryz.ntmps24
    go_wp2_with fail
    go_ret
    exact ⟨rfl, HB.out⟩
end Go.Proofs.YtfddjbojpgnfoaaGreatDoor
