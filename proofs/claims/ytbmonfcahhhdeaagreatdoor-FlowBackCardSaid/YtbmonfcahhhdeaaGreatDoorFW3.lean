/- The walks of flow.isScalar, Name, isText. The walk of flow.Scalar. The model of flow.Right and of put; what they ask of a tree. -/
import Derived.Test.YtbmonfcahhhdeaaGreatDoorPlain2
import Derived.Test.YtbmonfcahhhdeaaGreatDoorUtf3
import Derived.Test.YtbmonfcahhhdeaaGreatDoorQuote4
import Derived.Test.YtbmonfcahhhdeaaGreatDoorTree
set_option linter.unusedVariables false
set_option linter.unusedSimpArgs false
namespace Go.Proofs.YtbmonfcahhhdeaaGreatDoor
open Go.RowKit

def isSc (k : Int) : Bool := decide (1 ≤ k) && decide (k ≤ 4)
set_option maxHeartbeats 400000 in
theorem flow_isScalar (k : Int) (w : World) :
    Calls Tryz.prog 50 #[.int .i64 k] w fun e w' => e = .returned (.bool (isSc k)) ∧ w' = w := by
  by_cases h1 : 1 ≤ k
  · by_cases h2 : k ≤ 4
    · have hR : Hid (isSc k = true) := by show _ = _; simp [isSc, h1, h2]
      rw [hR.out]
      go_enter Tryz.func50, Tryz.ntmps50
      go_wp2_with fail
      go_ret
      exact ⟨rfl, rfl⟩
    · have hR : Hid (isSc k = false) := by show _ = _; simp [isSc, h1, h2]
      rw [hR.out]
      go_enter Tryz.func50, Tryz.ntmps50
      go_wp2_with fail
      go_ret
      exact ⟨rfl, rfl⟩
  · have hR : Hid (isSc k = false) := by show _ = _; simp [isSc, h1]
    rw [hR.out]
    go_enter Tryz.func50, Tryz.ntmps50
    go_wp2_with fail
    go_ret
    exact ⟨rfl, rfl⟩

/-- The signs of names. -/
def nameSet : Bs := [97, 98, 99, 100, 101, 102, 103, 104, 105, 106, 107, 108, 109, 110, 111, 112, 113, 114, 115, 116, 117, 118, 119, 120, 121, 122, 65, 66, 67, 68, 69, 70, 71, 72, 73, 74, 75, 76, 77, 78, 79, 80, 81, 82, 83, 84, 85, 86, 87, 88, 89, 90, 48, 49, 50, 51, 52, 53, 54, 55, 56, 57, 45, 95]
def isName (l : Bs) : Bool := !l.isEmpty && decide (l.length ≤ 32) && (trim l nameSet).isEmpty
set_option maxHeartbeats 1000000 in
theorem flow_Name (l : Bs) (hl : l.length ≤ 140737488355328) (w : World) :
    Calls Tryz.prog 23 #[St l] w fun e w' => e = .returned (.bool (isName l)) ∧ Below w.heap.size w w' := by
  cases l with
  | nil =>
    go_enter Tryz.func23, Tryz.ntmps23
    go_wp2_with fail
    go_ret
    exact ⟨rfl, Below.refl _ _⟩
  | cons b t =>
    by_cases h1 : (b :: t).length ≤ 32
    · have hT := str_Trim (b :: t) nameSet hl (by decide) (by kernel_rfl) w
      have h1' : (t.length : Int) + 1 ≤ 32 := by simp at h1; omega
      cases hX : trim (b :: t) nameSet with
      | nil =>
        have hR : Hid (isName (b :: t) = true) := by show _ = _; unfold isName; rw [hX]; simp; simpa using h1
        rw [hX] at hT
        rw [hR.out]
        clear hX h1 hl hR
        go_enter Tryz.func23, Tryz.ntmps23
        go_wp2_with fail
        refine hT.mono ?_
        rintro e w1 ⟨rfl, hb⟩
        go_wp2_with fail
        go_ret
        exact ⟨rfl, hb⟩
      | cons x y =>
        have hR : Hid (isName (b :: t) = false) := by show _ = _; unfold isName; rw [hX]; simp
        rw [hX] at hT
        rw [hR.out]
        clear hX h1 hl hR
        go_enter Tryz.func23, Tryz.ntmps23
        go_wp2_with fail
        refine hT.mono ?_
        rintro e w1 ⟨rfl, hb⟩
        go_wp2_with fail
        go_ret
        exact ⟨rfl, hb⟩
    · have hR : Hid (isName (b :: t) = false) := by show _ = _; unfold isName; rw [decide_eq_false h1]; simp
      have h1' : ¬ ((t.length : Int) + 1 ≤ 32) := by simp at h1; omega
      rw [hR.out]
      clear h1 hl hR
      go_enter Tryz.func23, Tryz.ntmps23
      go_wp2_with fail
      go_ret
      exact ⟨rfl, Below.refl _ _⟩

/-- May a text be a kind's? -/
def isTextB (k : Int) (s : Bs) : Bool := if k = 2 ∨ k = 3 then decide (presolve s = k) else if k = 4 then decide (uw nonneg s = s.length) else s.isEmpty
theorem uw_cases (s : Bs) : uw nonneg s = s.length ∨ uw nonneg s < s.length := by have := uw_le nonneg s; omega
set_option maxHeartbeats 1000000 in
theorem flow_isText (k : Int) (s : Bs) (hl : s.length ≤ 4294967296) (G : Nat) (w : World) (he : Env G w) :
    Calls Tryz.prog 49 #[.int .i64 k, St s] w fun e w' => e = .returned (.bool (isTextB k s)) ∧ Below w.heap.size w w' := by
  have hRs := plain_Resolve s (by omega) G w he
  by_cases h23 : k = 2 ∨ k = 3
  · have hR : Hid (isTextB k s = decide (presolve s = k)) := by show _ = _; unfold isTextB; rw [if_pos h23]
    rw [hR.out]
    clear hl he
    generalize presolve s = p at hRs ⊢
    rcases h23 with rfl | rfl
    · by_cases hp : p = 2
      · subst hp
        go_enter Tryz.func49, Tryz.ntmps49
        go_wp2_with fail
        refine hRs.mono ?_
        rintro e w1 ⟨rfl, hb⟩
        go_wp2_with fail
        go_ret
        exact ⟨rfl, hb⟩
      · have hB : (p == 2) = false := by simpa using hp
        have hD : Hid (decide (p = 2) = false) := by show _ = _; simpa using hp
        rw [hD.out]
        go_enter Tryz.func49, Tryz.ntmps49
        go_wp2_with fail
        refine hRs.mono ?_
        rintro e w1 ⟨rfl, hb⟩
        go_wp2_with fail
        go_ret
        exact ⟨rfl, hb⟩
    · by_cases hp : p = 3
      · subst hp
        go_enter Tryz.func49, Tryz.ntmps49
        go_wp2_with fail
        refine hRs.mono ?_
        rintro e w1 ⟨rfl, hb⟩
        go_wp2_with fail
        go_ret
        exact ⟨rfl, hb⟩
      · have hB : (p == 3) = false := by simpa using hp
        have hD : Hid (decide (p = 3) = false) := by show _ = _; simpa using hp
        rw [hD.out]
        go_enter Tryz.func49, Tryz.ntmps49
        go_wp2_with fail
        refine hRs.mono ?_
        rintro e w1 ⟨rfl, hb⟩
        go_wp2_with fail
        go_ret
        exact ⟨rfl, hb⟩
  · by_cases h4 : k = 4
    · have hR : Hid (isTextB k s = decide (uw nonneg s = s.length)) := by show _ = _; unfold isTextB; rw [if_neg h23, if_pos h4]
      subst h4
      rcases uw_cases s with hu | hu
      · have hD := utf_Decode_ok s G w hl he hu
        rw [hR.out, decide_eq_true hu]
        clear hRs hl he hR hu h23
        go_enter Tryz.func49, Tryz.ntmps49
        go_wp2_with fail
        refine hD.mono ?_
        rintro e w1 ⟨⟨A, c, rfl, ho⟩, hb⟩
        go_wp2_with fail
        go_ret
        exact ⟨rfl, hb.alloc hb.size _⟩
      · have hD := utf_Decode_bad s G w hl he hu
        rw [hR.out, decide_eq_false (by omega)]
        clear hRs hl he hR h23
        generalize (uw nonneg s) = n at hD hu
        go_enter Tryz.func49, Tryz.ntmps49
        go_wp2_with fail
        refine hD.mono ?_
        rintro e w1 ⟨rfl, hb⟩
        go_wp2_with fail
        go_ret
        exact ⟨rfl, hb.alloc hb.size _⟩
    · have hR : Hid (isTextB k s = s.isEmpty) := by show _ = _; unfold isTextB; rw [if_neg h23, if_neg h4]
      rw [hR.out]
      have b2 : (k == 2) = false := by simp; omega
      have b3 : (k == 3) = false := by simp; omega
      have b4 : (k == 4) = false := by simp; omega
      clear hRs hl he hR h23 h4
      cases s with
      | nil =>
        go_enter Tryz.func49, Tryz.ntmps49
        go_wp2_with fail
        go_ret
        exact ⟨rfl, Below.refl _ _⟩
      | cons a t =>
        go_enter Tryz.func49, Tryz.ntmps49
        go_wp2_with fail
        go_ret
        exact ⟨rfl, Below.refl _ _⟩
end Go.Proofs.YtbmonfcahhhdeaaGreatDoor

namespace Go.Proofs.YtbmonfcahhhdeaaGreatDoor
open Go.RowKit

/-- A scalar's text. -/
def scalarS (k : Int) (s : Bs) (f : Bool) : Bs :=
  if k = 1 then [110, 117, 108, 108] else if k = 2 ∨ k = 3 then s else if k = 4 then (if pis s f = true ∧ presolve s = 4 then s else (qdouble s).getD []) else []
set_option maxHeartbeats 1000000 in
theorem flow_Scalar (k : Int) (s a : Bs) (A : Option Addr) (n c : Nat) (f : Bool) (hl : s.length ≤ 4294967296) (G : Nat) (w : World) (he : Env G w) :
    Calls Tryz.prog 21 #[.agg #[.int .i64 k, St s, St a, .slice A n c], .bool f] w fun e w' => e = .returned (St (scalarS k s f)) ∧ Below w.heap.size w w' := by
  obtain ⟨F, hF⟩ : ∃ F, w.heap.size = F := ⟨_, rfl⟩
  have hb0 : Below w.heap.size w (w.alloc (.cells #[.int .i64 k, St s, St a, .slice A n c] 24)) := (Below.refl _ _).alloc (Nat.le_refl _) _
  have hk0 : (w.alloc (.cells #[.int .i64 k, St s, St a, .slice A n c] 24)).heap[F]? = some (.cells #[.int .i64 k, St s, St a, .slice A n c] 24) := by rw [← hF]; exact blk_new _ _
  have HB := Lib.hid hb0
  by_cases h1 : k = 1
  · subst h1
    have hR : Hid (scalarS 1 s f = [110, 117, 108, 108]) := by show _ = _; rfl
    rw [hR.out]
    clear he hb0 hk0
    go_enter Tryz.func21, Tryz.ntmps21
    go_wp2_with fail
    go_ret
    exact ⟨rfl, HB.out⟩
  by_cases h2 : k = 2 ∨ k = 3
  · have hR : Hid (scalarS k s f = s) := by show _ = _; unfold scalarS; rw [if_neg h1, if_pos h2]
    rw [hR.out]
    clear he hb0 hk0 hR
    rcases h2 with rfl | rfl
    · go_enter Tryz.func21, Tryz.ntmps21
      go_wp2_with fail
      go_ret
      exact ⟨rfl, HB.out⟩
    · go_enter Tryz.func21, Tryz.ntmps21
      go_wp2_with fail
      go_ret
      exact ⟨rfl, HB.out⟩
  by_cases h4 : k = 4
  · subst h4
    have hI := fun w' he' => plain_Is s f (by omega) G w' he'
    have hRs := fun w' he' => plain_Resolve s (by omega) G w' he'
    have HE := Lib.hid he
    have hE1 := he.alloc (.cells #[.int .i64 4, St s, St a, .slice A n c] 24)
    cases hp : pis s f with
    | true =>
      rw [hp] at hI
      by_cases h44 : presolve s = 4
      · have hR : Hid (scalarS 4 s f = s) := by show _ = _; unfold scalarS; rw [if_neg (by decide), if_neg (by decide), if_pos rfl, if_pos ⟨hp, h44⟩]
        rw [hR.out]
        rw [h44] at hRs
        clear hR hp h44 he hl
        go_enter Tryz.func21, Tryz.ntmps21
        go_wp2_with fail
        refine (hI _ hE1).mono ?_
        rintro e w1 ⟨rfl, hb1⟩
        have hk1 := blk_below hk0 hb1 (by simp; omega)
        obtain ⟨d0, d1, d2, d3, g0, g1, g2, g3⟩ := cells4 hk1
        have HC := Lib.hid (And.intro hb1 hk1)
        clear hb0 hb1 hk1 hk0
        go_wp2_with fail
        refine (hRs _ (by exact hE1.own HC.out.1)).mono ?_
        rintro e w2 ⟨rfl, hb2⟩
        have hk2 := blk_below HC.out.2 hb2 (by have := HC.out.1.size; simp at this; omega)
        clear d0 d1 d2 d3 g0 g1 g2 g3
        obtain ⟨d0, d1, d2, d3, g0, g1, g2, g3⟩ := cells4 hk2
        have HD := Lib.hid hb2
        clear hb2 hk2
        go_wp2_with fail
        go_ret
        exact ⟨rfl, (HB.out.trans (HC.out.1.mono (by simp))).trans (HD.out.mono (by have := HC.out.1.size; simp at this; omega))⟩
      · have hR : Hid (scalarS 4 s f = (qdouble s).getD []) := by show _ = _; unfold scalarS; rw [if_neg (by decide), if_neg (by decide), if_pos rfl, if_neg (fun h => h44 h.2)]
        have hB4 : (presolve s == 4) = false := by simpa using h44
        have hDbl : ∀ w', Env G w' → ∃ y, Calls Tryz.prog 41 #[St s] w' fun e w'' => e = .returned (.tuple #[St ((qdouble s).getD []), .int .i64 y]) ∧ Below w'.heap.size w' w'' := fun w' he' => by
          cases hq : qdouble s with
          | none => exact ⟨8, quote_Double_bad s G w' hl he' hq⟩
          | some X => exact ⟨0, quote_Double_ok s X G w' hl he' hq⟩
        rw [hR.out]
        generalize (qdouble s).getD [] = X at hDbl ⊢
        generalize presolve s = p at hRs hB4
        clear hR hp h44 he hl
        go_enter Tryz.func21, Tryz.ntmps21
        go_wp2_with fail
        refine (hI _ hE1).mono ?_
        rintro e w1 ⟨rfl, hb1⟩
        have hk1 := blk_below hk0 hb1 (by simp; omega)
        obtain ⟨d0, d1, d2, d3, g0, g1, g2, g3⟩ := cells4 hk1
        have HC := Lib.hid (And.intro hb1 hk1)
        clear hb0 hb1 hk1 hk0
        go_wp2_with fail
        refine (hRs _ (by exact hE1.own HC.out.1)).mono ?_
        rintro e w2 ⟨rfl, hb2⟩
        have hk2 := blk_below HC.out.2 hb2 (by have := HC.out.1.size; simp at this; omega)
        clear d0 d1 d2 d3 g0 g1 g2 g3
        obtain ⟨d0, d1, d2, d3, g0, g1, g2, g3⟩ := cells4 hk2
        have HD := Lib.hid hb2
        clear hb2 hk2
        go_wp2_with fail
        obtain ⟨y, hY⟩ := hDbl w2 ((hE1.own HC.out.1).own HD.out)
        refine hY.mono ?_
        rintro e w3 ⟨rfl, hb3⟩
        go_wp2_with fail
        go_ret
        exact ⟨rfl, ((HB.out.trans (HC.out.1.mono (by simp))).trans (HD.out.mono (by have := HC.out.1.size; simp at this; omega))).trans (hb3.mono (by have := HC.out.1.size; have := HD.out.size; simp at *; omega))⟩
    | false =>
      have hR : Hid (scalarS 4 s f = (qdouble s).getD []) := by show _ = _; unfold scalarS; rw [if_neg (by decide), if_neg (by decide), if_pos rfl, if_neg (fun h => by rw [hp] at h; exact absurd h.1 (by decide))]
      have hDbl : ∀ w', Env G w' → ∃ y, Calls Tryz.prog 41 #[St s] w' fun e w'' => e = .returned (.tuple #[St ((qdouble s).getD []), .int .i64 y]) ∧ Below w'.heap.size w' w'' := fun w' he' => by
        cases hq : qdouble s with
        | none => exact ⟨8, quote_Double_bad s G w' hl he' hq⟩
        | some X => exact ⟨0, quote_Double_ok s X G w' hl he' hq⟩
      rw [hp] at hI
      rw [hR.out]
      generalize (qdouble s).getD [] = X at hDbl ⊢
      clear hR hp he hl hRs
      go_enter Tryz.func21, Tryz.ntmps21
      go_wp2_with fail
      refine (hI _ hE1).mono ?_
      rintro e w1 ⟨rfl, hb1⟩
      have hk1 := blk_below hk0 hb1 (by simp; omega)
      obtain ⟨d0, d1, d2, d3, g0, g1, g2, g3⟩ := cells4 hk1
      have HC := Lib.hid (And.intro hb1 hk1)
      clear hb0 hb1 hk1 hk0
      go_wp2_with fail
      obtain ⟨y, hY⟩ := hDbl w1 (hE1.own HC.out.1)
      refine hY.mono ?_
      rintro e w3 ⟨rfl, hb3⟩
      go_wp2_with fail
      go_ret
      exact ⟨rfl, (HB.out.trans (HC.out.1.mono (by simp))).trans (hb3.mono (by have := HC.out.1.size; simp at *; omega))⟩
  · have hR : Hid (scalarS k s f = []) := by show _ = _; unfold scalarS; rw [if_neg h1, if_neg h2, if_neg h4]
    have b1 : (k == 1) = false := by simpa using h1
    have b2 : (k == 2) = false := by simp; omega
    have b3 : (k == 3) = false := by simp; omega
    have b4 : (k == 4) = false := by simpa using h4
    rw [hR.out]
    clear he hb0 hk0 hR h1 h2 h4
    go_enter Tryz.func21, Tryz.ntmps21
    go_wp2_with fail
    go_ret
    exact ⟨rfl, HB.out⟩
end Go.Proofs.YtbmonfcahhhdeaaGreatDoor

namespace Go.Proofs.YtbmonfcahhhdeaaGreatDoor
open Go.RowKit

/-- A tree's texts and rows are not too long. -/
inductive Fit : List T → Prop
  | nil : Fit []
  | cons (k : Int) (t a : Bs) (kids ts : List T) (h1 : t.length ≤ 4294967296) (h2 : a.length ≤ 4294967296) (h3 : kids.length ≤ 4294967296) (h4 : Fit kids) (h5 : Fit ts) : Fit (.mk k t a kids :: ts)
mutual
/-- right: the answer, and how many trees may still come. -/
def rightT : T → Int → Int → Bool × Int
  | .mk k t a kids, left, deep =>
    if left - 1 < 0 ∨ k < 1 ∨ 7 < k ∨ isTextB k t = false then (false, left - 1)
    else if (a ≠ [] ∨ k = 7) ∧ isName a = false then (false, left - 1)
    else if k ≠ 5 ∧ k ≠ 6 then (kids.isEmpty, left - 1)
    else if deep = 64 ∨ (k = 6 ∧ kids.length % 2 ≠ 0) then (false, left - 1)
    else rightL (decide (k = 6)) kids 0 (left - 1) (deep + 1)
def rightL (m : Bool) : List T → Nat → Int → Int → Bool × Int
  | [], _, left, _ => (true, left)
  | t :: ts, i, left, deep =>
    if m = true ∧ i % 2 = 0 ∧ (isSc t.kind = false ∨ t.anchor ≠ []) then (false, left)
    else if (rightT t left deep).1 then rightL m ts (i + 1) (rightT t left deep).2 deep else (false, (rightT t left deep).2)
end
mutual
/-- put's text. -/
def putT : T → Bs
  | .mk k t a kids =>
    if k = 7 then 42 :: a
    else (if a ≠ [] then 38 :: a ++ [32] else []) ++ (if k = 5 then [91] ++ putL false kids 0 ++ [93] else if k = 6 then [123] ++ putL true kids 0 ++ [125] else scalarS k t true)
def putL (m : Bool) : List T → Nat → Bs
  | [], _ => []
  | t :: ts, i => (if m = true ∧ i % 2 = 1 then [58, 32] else if 0 < i then [44, 32] else []) ++ putT t ++ putL m ts (i + 1)
end
theorem rightT_mk (k : Int) (t a : Bs) (kids : List T) (left deep : Int) : rightT (.mk k t a kids) left deep =
    if left - 1 < 0 ∨ k < 1 ∨ 7 < k ∨ isTextB k t = false then (false, left - 1)
    else if (a ≠ [] ∨ k = 7) ∧ isName a = false then (false, left - 1)
    else if k ≠ 5 ∧ k ≠ 6 then (kids.isEmpty, left - 1)
    else if deep = 64 ∨ (k = 6 ∧ kids.length % 2 ≠ 0) then (false, left - 1)
    else rightL (decide (k = 6)) kids 0 (left - 1) (deep + 1) := by rw [rightT]
theorem rightL_cons (m : Bool) (t : T) (ts : List T) (i : Nat) (left deep : Int) : rightL m (t :: ts) i left deep =
    if m = true ∧ i % 2 = 0 ∧ (isSc t.kind = false ∨ t.anchor ≠ []) then (false, left)
    else if (rightT t left deep).1 then rightL m ts (i + 1) (rightT t left deep).2 deep else (false, (rightT t left deep).2) := by rw [rightL]
theorem putT_mk (k : Int) (t a : Bs) (kids : List T) : putT (.mk k t a kids) =
    if k = 7 then 42 :: a
    else (if a ≠ [] then 38 :: a ++ [32] else []) ++ (if k = 5 then [91] ++ putL false kids 0 ++ [93] else if k = 6 then [123] ++ putL true kids 0 ++ [125] else scalarS k t true) := by rw [putT]
theorem putL_cons (m : Bool) (t : T) (ts : List T) (i : Nat) : putL m (t :: ts) i = (if m = true ∧ i % 2 = 1 then [58, 32] else if 0 < i then [44, 32] else []) ++ putT t ++ putL m ts (i + 1) := by rw [putL]
theorem Fit.drop {l : List T} (h : Fit l) (i : Nat) : Fit (l.drop i) := by
  induction h generalizing i with
  | nil => rw [List.drop_nil]; exact .nil
  | cons k t a kids ts h1 h2 h3 h4 h5 ih1 ih2 =>
    cases i with
    | zero => exact .cons k t a kids ts h1 h2 h3 h4 h5
    | succ i => exact ih2 i
theorem Rep.drop {w : World} {K : Nat → Prop} {l : List T} {xs : List Value} (h : Rep w K l xs) (i : Nat) : Rep w K (l.drop i) (xs.drop (i * 4)) := by
  induction h generalizing i with
  | nil => rw [List.drop_nil, List.drop_nil]; exact .nil
  | cons k t a kids v xs ts ys base ho hv hk hr ih1 ih2 =>
    cases i with
    | zero => exact .cons k t a kids v xs ts ys base ho hv hk hr
    | succ i =>
      have : (i + 1) * 4 = i * 4 + 4 := by omega
      rw [this]
      exact ih2 i
/-- A row's cells. -/
theorem own_cell {w : World} {base n : Nat} {e : TypeId} {size : Nat} {A : Option Addr} {c : Nat} {xs : List Value} (h : w.ownsRow base e size (.slice A n c) n xs) (h0 : 0 < xs.length) :
    ∃ b, A = some ⟨b, 0, none⟩ ∧ ∀ j, j < xs.length → w.cell? ⟨b, j, none⟩ = xs[j]? := by
  rcases h.2 with ⟨h1, h2⟩ | ⟨g, cap, cur, h1, hg, hh, r⟩
  · have := h.1
    rw [h2, Nat.zero_mul] at this
    omega
  · simp only [Value.slice.injEq] at h1
    refine ⟨g, h1.1, fun j hj => ?_⟩
    rw [blk_cell hh, ← r.2.2.2]
    have hj' : j < n * size := by rw [← h.1]; exact hj
    rw [List.getElem?_take_of_lt hj', Array.getElem?_toList]
/-! ### trees that can be read, wherever they lie -/
/-- A row that can be read. -/
def RowAt (w : World) (v : Value) (n : Nat) (xs : List Value) : Prop :=
  xs.length = n * 4 ∧ ((v = .slice none 0 0 ∧ n = 0) ∨ ∃ (a : Addr) (cap : Nat), v = .slice (some a) n cap ∧ (0 < n → a.spot = none) ∧ ∀ j, j < n * 4 → w.cell? ⟨a.block, a.off + j, none⟩ = xs[j]?)
theorem RowAt.shape {w : World} {v : Value} {n : Nat} {xs : List Value} (h : RowAt w v n xs) : ∃ A c, v = .slice A n c := by
  rcases h.2 with ⟨h1, rfl⟩ | ⟨a, c, h1, _⟩
  · exact ⟨_, _, h1⟩
  · exact ⟨_, _, h1⟩
/-- A tree that can be read: all blocks with its rows are in K. -/
inductive See (w : World) (K : Nat → Prop) : List T → List Value → Prop
  | nil : See w K [] []
  | cons (k : Int) (t a : Bs) (kids : List T) (v : Value) (xs : List Value) (ts : List T) (ys : List Value)
      (ho : RowAt w v kids.length xs) (hK : 0 < kids.length → ∀ b, v.ownBlock = some b → K b) (hk : See w K kids xs) (hr : See w K ts ys) :
      See w K (.mk k t a kids :: ts) (.int .i64 k :: St t :: St a :: v :: ys)
theorem own_row {w : World} {base n : Nat} {e : TypeId} {v : Value} {xs : List Value} (h : w.ownsRow base e 4 v n xs) : RowAt w v n xs := by
  refine ⟨h.1, ?_⟩
  rcases h.2 with h1 | ⟨g, cap, cur, rfl, hg, hh, r⟩
  · exact .inl h1
  · refine .inr ⟨_, _, rfl, fun _ => rfl, fun j hj => ?_⟩
    rw [blk_cell hh, ← r.2.2.2, List.getElem?_take_of_lt hj, Array.getElem?_toList, Nat.zero_add]
theorem Rep.see {w : World} {K : Nat → Prop} {ts : List T} {xs : List Value} (h : Rep w K ts xs) : See w K ts xs := by
  induction h with
  | nil => exact .nil
  | cons k t a kids v xs ts ys base ho hv hk hr ih1 ih2 => exact .cons k t a kids v xs ts ys (own_row ho) (fun _ => hv) ih1 ih2
theorem See.keep {w w' : World} {K K' : Nat → Prop} {ts : List T} {xs : List Value} (h : See w K ts xs)
    (hb : ∀ b, b < w.heap.size → K b → w'.heap[b]? = w.heap[b]?) (hK : ∀ b, b < w.heap.size → K b → K' b) : See w' K' ts xs := by
  induction h with
  | nil => exact .nil
  | cons k t a kids v xs ts ys ho hv hk hr ih1 ih2 =>
    have hlen := ho.1
    have hlt : 0 < kids.length → ∀ b, v.ownBlock = some b → b < w.heap.size := by
      intro h0 b hb'
      rcases ho.2 with ⟨rfl, h2⟩ | ⟨A, cap, rfl, hs, hc⟩
      · omega
      · have h1 := hc 0 (by omega)
        rw [List.getElem?_eq_getElem (by omega)] at h1
        have h2 := World.block_lt_of_cell? w _ h1
        have h3 : A.block = b := by simpa [Value.ownBlock] using hb'
        rw [← h3]; exact h2
    refine .cons k t a kids v xs ts ys ⟨ho.1, ?_⟩ (fun h0 b hb' => hK b (hlt h0 b hb') (hv h0 b hb')) ih1 ih2
    rcases ho.2 with h1 | ⟨A, cap, rfl, hs, hc⟩
    · exact .inl h1
    · refine .inr ⟨A, cap, rfl, hs, fun j hj => ?_⟩
      have h0 : 0 < kids.length := by omega
      rw [← hc j hj]
      unfold World.cell?
      rw [hb A.block (hlt h0 _ rfl) (hv h0 _ rfl)]
theorem See.under {w w' : World} {K : Nat → Prop} {ts : List T} {xs : List Value} (h : See w K ts xs) (hb : Below w.heap.size w w') : See w' K ts xs :=
  h.keep (fun b hl _ => hb.block b hl) fun _ _ h => h
theorem See.len {w : World} {K : Nat → Prop} {ts : List T} {xs : List Value} (h : See w K ts xs) : xs.length = ts.length * 4 := by
  induction h with
  | nil => rfl
  | cons k t a kids v xs ts ys ho hK hk hr _ ih => simp [ih]; omega
theorem See.drop {w : World} {K : Nat → Prop} {l : List T} {xs : List Value} (h : See w K l xs) (i : Nat) : See w K (l.drop i) (xs.drop (i * 4)) := by
  induction h generalizing i with
  | nil => rw [List.drop_nil, List.drop_nil]; exact .nil
  | cons k t a kids v xs ts ys ho hv hk hr ih1 ih2 =>
    cases i with
    | zero => exact .cons k t a kids v xs ts ys ho hv hk hr
    | succ i =>
      have : (i + 1) * 4 = i * 4 + 4 := by omega
      rw [this]
      exact ih2 i
theorem See.count {w : World} {K : Nat → Prop} {k : Int} {t a : Bs} {kids : List T} {A : Option Addr} {n c : Nat} (h : See w K [.mk k t a kids] [.int .i64 k, St t, St a, .slice A n c]) : n = kids.length := by
  cases h with | cons _ _ _ _ v xs ts ys ho hv hk hr =>
    rcases ho.2 with ⟨h, h'⟩ | ⟨gg, cap, h, _⟩
    · simp only [Value.slice.injEq] at h; omega
    · simp only [Value.slice.injEq] at h; exact h.2.1
theorem See.elem {w : World} {K : Nat → Prop} {k : Int} {t a : Bs} {kids : List T} {A : Option Addr} {n cp : Nat} (h : See w K [.mk k t a kids] [.int .i64 k, St t, St a, .slice A n cp]) (i : Nat) {k' : Int} {t' a' : Bs} {kids' rest : List T} (hdr : kids.drop i = .mk k' t' a' kids' :: rest) :
    ∃ b o A' n' cp', A = some ⟨b, o, none⟩ ∧ (∀ j, j < 4 → w.cell? ⟨b, o + (i * 4 + j), none⟩ = [Value.int .i64 k', St t', St a', .slice A' n' cp'][j]?) ∧ See w K [.mk k' t' a' kids'] [.int .i64 k', St t', St a', .slice A' n' cp'] := by
  have hn := h.count
  subst hn
  cases h with
  | cons _ _ _ _ v xs ts ys ho hv hk hr =>
    have hd := hk.drop i
    rw [hdr] at hd
    generalize hxd : xs.drop (i * 4) = xd at hd
    cases hd with
    | cons _ _ _ _ v' xs' ts' ys' ho' hv' hk' hr' =>
      obtain ⟨A', c', rfl⟩ := ho'.shape
      have hlen := congrArg List.length hxd
      rw [List.length_drop] at hlen
      simp only [List.length_cons] at hlen
      have hx := ho.1
      rcases ho.2 with ⟨_, h2⟩ | ⟨⟨b, o, sp⟩, cap, h2, hs, hc⟩
      · omega
      · simp only [Value.slice.injEq] at h2
        obtain rfl : sp = none := hs (by omega)
        refine ⟨b, o, A', _, c', h2.1, fun j hj => ?_, .cons _ _ _ _ _ xs' [] [] ho' hv' hk' .nil⟩
        have := hc (i * 4 + j) (by omega)
        rw [this, ← List.getElem?_drop, hxd]
        match j, hj with
        | 0, _ => rfl
        | 1, _ => rfl
        | 2, _ => rfl
        | 3, _ => rfl
end Go.Proofs.YtbmonfcahhhdeaaGreatDoor
