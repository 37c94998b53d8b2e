/- The walk of counter.right. -/
import Derived.Test.YtbmonfcahhhdeaaGreatDoorFW3
set_option linter.unusedVariables false
set_option linter.unusedSimpArgs false
namespace Go.Proofs.YtbmonfcahhhdeaaGreatDoor
open Go.RowKit

/-- What stands behind right. -/
def RightPost (c : Nat) (R : Bool × Int) (w w' : World) : Prop := w'.heap[c]? = some (.cells #[.int .i64 R.2] 55) ∧ (R.1 = true → 0 ≤ R.2) ∧ R.2 ≤ 4096 ∧ Fr (· = c) w.heap.size w w'
/-- right's contract at trees of a size. -/
def RightSpec (m : Nat) : Prop := ∀ (k : Int) (t a : Bs) (kids : List T) (A : Option Addr) (n cp : Nat), SizeOf.sizeOf kids < m → Fit [.mk k t a kids] →
  ∀ (c : Nat) (left deep : Int) (G : Nat) (K : Nat → Prop) (w : World), 0 ≤ left → left ≤ 4096 → 0 ≤ deep → deep ≤ 64 → Env G w → G ≤ c → ¬ K c → w.heap[c]? = some (.cells #[.int .i64 left] 55) →
    See w K [.mk k t a kids] [.int .i64 k, St t, St a, .slice A n cp] →
    Calls Tryz.prog 28 #[.pointer (some ⟨c, 0, none⟩), .agg #[.int .i64 k, St t, St a, .slice A n cp], .int .i64 deep] w fun e w' =>
      e = .returned (.bool (rightT (.mk k t a kids) left deep).1) ∧ RightPost c (rightT (.mk k t a kids) left deep) w w'

/-- right's contract where it comes to its loop. -/
def RightLoop (m : Nat) : Prop := ∀ (k : Int) (t a : Bs) (kids : List T) (A : Option Addr) (n cp : Nat), SizeOf.sizeOf kids < m + 1 → Fit [.mk k t a kids] →
  ∀ (c : Nat) (left deep : Int) (G : Nat) (K : Nat → Prop) (w : World), 0 ≤ left → left ≤ 4096 → 0 ≤ deep → deep ≤ 64 → Env G w → G ≤ c → ¬ K c → w.heap[c]? = some (.cells #[.int .i64 left] 55) →
    See w K [.mk k t a kids] [.int .i64 k, St t, St a, .slice A n cp] →
    (k = 5 ∨ k = 6) → isTextB k t = true → 0 ≤ left - 1 → deep ≠ 64 → (k = 6 → kids.length % 2 = 0) → (a ≠ [] → isName a = true) →
    Calls Tryz.prog 28 #[.pointer (some ⟨c, 0, none⟩), .agg #[.int .i64 k, St t, St a, .slice A n cp], .int .i64 deep] w fun e w' =>
      e = .returned (.bool (rightL (decide (k = 6)) kids 0 (left - 1) (deep + 1)).1) ∧ RightPost c (rightL (decide (k = 6)) kids 0 (left - 1) (deep + 1)) w w'

set_option maxHeartbeats 8000000 in
set_option maxRecDepth 100000 in
theorem right_step (m : Nat) (hloop : RightLoop m) : RightSpec (m + 1) := by
  intro k t a kids A n cp hm hfit c left deep G K w hl0 hl1 hd0 hd1 he hGc hKc hc hrep
  have HL := Lib.hid (fun h1 h2 h3 h4 h5 h6 => hloop k t a kids A n cp hm hfit c left deep G K w hl0 hl1 hd0 hd1 he hGc hKc hc hrep h1 h2 h3 h4 h5 h6)
  obtain ⟨F, hF⟩ : ∃ F, w.heap.size = F := ⟨_, rfl⟩
  have hlt := blk_lt hc
  rw [hF] at hlt
  have hc0 : (w.alloc (.cells #[.int .i64 k, St t, St a, .slice A n cp] 24)).heap[c]? = some (.cells #[.int .i64 left] 55) := blk_alloc hc
  have c0 : (w.alloc (.cells #[.int .i64 k, St t, St a, .slice A n cp] 24)).cell? ⟨c, 0, none⟩ = some (.int .i64 left) := blk_cell hc0 0
  have f0 := blk_free hc0 0
  have hc1 : ((w.setCell ⟨c, 0, none⟩ (.int .i64 (left - 1))).alloc (.cells #[.int .i64 k, St t, St a, .slice A n cp] 24)).heap[c]? = some (.cells #[.int .i64 (left - 1)] 55) := blk_alloc (blk_set hc)
  have hz : (w.setCell ⟨c, 0, none⟩ (.int .i64 (left - 1))).heap.size = F := by rw [← hF]; simp [World.setCell]
  have hk1 : ((w.setCell ⟨c, 0, none⟩ (.int .i64 (left - 1))).alloc (.cells #[.int .i64 k, St t, St a, .slice A n cp] 24)).heap[F]? = some (.cells #[.int .i64 k, St t, St a, .slice A n cp] 24) := by
    have := blk_new (w.setCell ⟨c, 0, none⟩ (.int .i64 (left - 1))) (.cells #[.int .i64 k, St t, St a, .slice A n cp] 24)
    rwa [hz] at this
  have hfr1 : Fr (· = c) F w ((w.setCell ⟨c, 0, none⟩ (.int .i64 (left - 1))).alloc (.cells #[.int .i64 k, St t, St a, .slice A n cp] 24)) := by rw [← hF]; exact ((Fr.refl _ _ _).own _ _).alloc (by rw [hz, hF]; exact Nat.le_refl _) _
  have d0 : ((w.setCell ⟨c, 0, none⟩ (.int .i64 (left - 1))).alloc (.cells #[.int .i64 k, St t, St a, .slice A n cp] 24)).cell? ⟨c, 0, none⟩ = some (.int .i64 (left - 1)) := blk_cell hc1 0
  obtain ⟨p0, p1, p2, p3, q0, q1, q2, q3⟩ := cells4 hk1
  have hwl : wrap64 (left - 1) = left - 1 := by unfold wrap64; omega
  have h4096 : left - 1 ≤ 4096 := by omega
  have hrep1 : See ((w.setCell ⟨c, 0, none⟩ (.int .i64 (left - 1))).alloc (.cells #[.int .i64 k, St t, St a, .slice A n cp] 24)) K [.mk k t a kids] [.int .i64 k, St t, St a, .slice A n cp] := by
    refine hrep.keep (fun b hb hK => ?_) fun _ _ h => h
    have hbc : b ≠ c := fun e => hKc (e ▸ hK)
    rw [Below.heap_alloc _ _ _ (by rw [hz]; omega), Below.heap_setCell _ _ _ _ (by simpa using hbc)]
  have he1 : Env G ((w.setCell ⟨c, 0, none⟩ (.int .i64 (left - 1))).alloc (.cells #[.int .i64 k, St t, St a, .slice A n cp] 24)) := (he.setCell (by simpa using hGc) _).alloc _
  have hlens : t.length ≤ 4294967296 ∧ a.length ≤ 4294967296 ∧ kids.length ≤ 4294967296 ∧ Fit kids := by
    cases hfit with | cons _ _ _ _ _ h1 h2 h3 h4 h5 => exact ⟨h1, h2, h3, h4⟩
  have HC := Lib.hid (And.intro hc1 (And.intro hk1 (And.intro hfr1 (And.intro hrep1 (And.intro he1 hlens)))))
  have hTx := flow_isText k t hlens.1 G _ he1
  have hnk : n = kids.length := hrep.count
  have hcF : c ≠ F := by omega
  have HNK := Lib.hid hnk
  clear hrep he hc1 hk1 hfr1 hrep1 he1 hlens hfit hnk
  by_cases h1 : left - 1 < 0
  · have hR : Hid (rightT (.mk k t a kids) left deep = (false, left - 1)) := by show _ = _; rw [rightT_mk, if_pos (.inl h1)]
    rw [hR.out]
    clear hR hm hTx
    go_enter Tryz.func28, Tryz.ntmps28
    go_wp2_with fail
    go_ret
    exact ⟨rfl, HC.out.1, fun h => (by cases h), h4096, by rw [hF]; exact HC.out.2.2.1⟩
  by_cases h2 : k < 1
  · have hR : Hid (rightT (.mk k t a kids) left deep = (false, left - 1)) := by show _ = _; rw [rightT_mk, if_pos (.inr (.inl h2))]
    rw [hR.out]
    clear hR hm hTx
    go_enter Tryz.func28, Tryz.ntmps28
    go_wp2_with fail
    go_ret
    exact ⟨rfl, HC.out.1, fun h => (by cases h), h4096, by rw [hF]; exact HC.out.2.2.1⟩
  by_cases h3 : 7 < k
  · have hR : Hid (rightT (.mk k t a kids) left deep = (false, left - 1)) := by show _ = _; rw [rightT_mk, if_pos (.inr (.inr (.inl h3)))]
    rw [hR.out]
    clear hR hm hTx
    go_enter Tryz.func28, Tryz.ntmps28
    go_wp2_with fail
    go_ret
    exact ⟨rfl, HC.out.1, fun h => (by cases h), h4096, by rw [hF]; exact HC.out.2.2.1⟩
  cases htx : isTextB k t with
  | false =>
    have hR : Hid (rightT (.mk k t a kids) left deep = (false, left - 1)) := by show _ = _; rw [rightT_mk, if_pos (.inr (.inr (.inr htx)))]
    rw [hR.out]
    rw [htx] at hTx
    clear hR hm htx
    go_enter Tryz.func28, Tryz.ntmps28
    go_wp2_with fail
    refine hTx.mono ?_
    rintro e w2 ⟨rfl, hb2⟩
    have hc2 := blk_below HC.out.1 hb2 (blk_lt HC.out.1)
    have hk2 := blk_below HC.out.2.1 hb2 (blk_lt HC.out.2.1)
    have f2 : Fr (· = c) F w w2 := HC.out.2.2.1.below hb2 (by have := blk_lt HC.out.2.1; omega)
    have hr2 := HC.out.2.2.2.1.under hb2
    have he2 := HC.out.2.2.2.2.1.own hb2
    clear d0 p0 p1 p2 p3 q0 q1 q2 q3 c0 f0
    obtain ⟨p0, p1, p2, p3, q0, q1, q2, q3⟩ := cells4 hk2
    have H2 := Lib.hid (And.intro hc2 (And.intro hk2 (And.intro f2 (And.intro hr2 he2))))
    clear hc2 hk2 f2 hr2 he2 hb2
    go_wp2_with fail
    go_ret
    exact ⟨rfl, H2.out.1, fun h => (by cases h), h4096, by rw [hF]; exact H2.out.2.2.1⟩
  | true =>
  have hG1 : ¬ (left - 1 < 0 ∨ k < 1 ∨ 7 < k ∨ isTextB k t = false) := by rw [htx]; simp; omega
  rw [htx] at hTx
  have hNm := fun w' => flow_Name a (by have := HC.out.2.2.2.2.2.2.1; omega) w'
  have hncase : (isName a = false ∧ (∃ x y, a = x :: y) ∧ (a ≠ [] ∨ k = 7) ∧ isName a = false) ∨ (a = [] ∧ k = 7) ∨ ((∃ x y, a = x :: y) ∧ isName a = true) ∨ (a = [] ∧ (k == 7) = false) := by
    rcases a with _ | ⟨x, y⟩
    · by_cases h7 : k = 7
      · exact .inr (.inl ⟨rfl, h7⟩)
      · exact .inr (.inr (.inr ⟨rfl, by simpa using h7⟩))
    · cases hn : isName (x :: y) with
      | false => exact .inl ⟨rfl, ⟨x, y, rfl⟩, .inl (by simp), rfl⟩
      | true => exact .inr (.inr (.inl ⟨⟨x, y, rfl⟩, rfl⟩))
  have hG1' := Lib.hid hG1
  clear hG1 htx
  rcases hncase with ⟨hn, ⟨x, y, rfl⟩, _, _⟩ | ⟨rfl, rfl⟩ | ⟨⟨x, y, rfl⟩, hn⟩ | ⟨rfl, h7⟩
  · have hR : Hid (rightT (.mk k t (x :: y) kids) left deep = (false, left - 1)) := by show _ = _; rw [rightT_mk, if_neg hG1'.out, if_pos ⟨.inl (by simp), hn⟩]
    rw [hR.out]
    rw [hn] at hNm
    clear hR hm hn
    go_enter Tryz.func28, Tryz.ntmps28
    go_wp2_with fail
    refine hTx.mono ?_
    rintro e w2 ⟨rfl, hb2⟩
    have hc2 := blk_below HC.out.1 hb2 (blk_lt HC.out.1)
    have hk2 := blk_below HC.out.2.1 hb2 (blk_lt HC.out.2.1)
    have f2 : Fr (· = c) F w w2 := HC.out.2.2.1.below hb2 (by have := blk_lt HC.out.2.1; omega)
    have hr2 := HC.out.2.2.2.1.under hb2
    have he2 := HC.out.2.2.2.2.1.own hb2
    clear d0 p0 p1 p2 p3 q0 q1 q2 q3 c0 f0
    obtain ⟨p0, p1, p2, p3, q0, q1, q2, q3⟩ := cells4 hk2
    have H2 := Lib.hid (And.intro hc2 (And.intro hk2 (And.intro f2 (And.intro hr2 he2))))
    clear hc2 hk2 f2 hr2 he2 hb2
    go_wp2_with fail
    refine (hNm _).mono ?_
    rintro e w3 ⟨rfl, hb3⟩
    go_wp2_with fail
    go_ret
    exact ⟨rfl, blk_below H2.out.1 hb3 (blk_lt H2.out.1), fun h => (by cases h), h4096, by rw [hF]; exact H2.out.2.2.1.below hb3 (by have := blk_lt H2.out.2.1; omega)⟩
  · have hR : Hid (rightT (.mk 7 t [] kids) left deep = (false, left - 1)) := by show _ = _; rw [rightT_mk, if_neg hG1'.out, if_pos ⟨.inr rfl, rfl⟩]
    have hNm' : ∀ w', Calls Tryz.prog 23 #[St []] w' fun e w'' => e = .returned (.bool false) ∧ Below w'.heap.size w' w'' := hNm
    rw [hR.out]
    clear hR hm hNm
    go_enter Tryz.func28, Tryz.ntmps28
    go_wp2_with fail
    refine hTx.mono ?_
    rintro e w2 ⟨rfl, hb2⟩
    have hc2 := blk_below HC.out.1 hb2 (blk_lt HC.out.1)
    have hk2 := blk_below HC.out.2.1 hb2 (blk_lt HC.out.2.1)
    have f2 : Fr (· = c) F w w2 := HC.out.2.2.1.below hb2 (by have := blk_lt HC.out.2.1; omega)
    have hr2 := HC.out.2.2.2.1.under hb2
    have he2 := HC.out.2.2.2.2.1.own hb2
    clear d0 p0 p1 p2 p3 q0 q1 q2 q3 c0 f0
    obtain ⟨p0, p1, p2, p3, q0, q1, q2, q3⟩ := cells4 hk2
    have H2 := Lib.hid (And.intro hc2 (And.intro hk2 (And.intro f2 (And.intro hr2 he2))))
    clear hc2 hk2 f2 hr2 he2 hb2
    go_wp2_with fail
    refine (hNm' _).mono ?_
    rintro e w3 ⟨rfl, hb3⟩
    go_wp2_with fail
    go_ret
    exact ⟨rfl, blk_below H2.out.1 hb3 (blk_lt H2.out.1), fun h => (by cases h), h4096, by rw [hF]; exact H2.out.2.2.1.below hb3 (by have := blk_lt H2.out.2.1; omega)⟩
  · have hN2 : Hid (rightT (.mk k t (x :: y) kids) left deep = if k ≠ 5 ∧ k ≠ 6 then (kids.isEmpty, left - 1) else if deep = 64 ∨ (k = 6 ∧ kids.length % 2 ≠ 0) then (false, left - 1) else rightL (decide (k = 6)) kids 0 (left - 1) (deep + 1)) := by
      show _ = _
      rw [rightT_mk, if_neg hG1'.out, if_neg (fun h => by rw [hn] at h; exact absurd h.2 (by decide))]
    rw [hn] at hNm
    by_cases h56 : k ≠ 5 ∧ k ≠ 6
    · have hR : Hid (rightT (.mk k t (x :: y) kids) left deep = (kids.isEmpty, left - 1)) := by show _ = _; rw [hN2.out, if_pos h56]
      have b5 : (k != 5) = true := by simpa using h56.1
      have b6 : (k != 6) = true := by simpa using h56.2
      rw [hR.out]
      clear hR hm h56 hN2
      go_enter Tryz.func28, Tryz.ntmps28
      go_wp2_with fail
      refine hTx.mono ?_
      rintro e w2 ⟨rfl, hb2⟩
      have hc2 := blk_below HC.out.1 hb2 (blk_lt HC.out.1)
      have hk2 := blk_below HC.out.2.1 hb2 (blk_lt HC.out.2.1)
      have f2 : Fr (· = c) F w w2 := HC.out.2.2.1.below hb2 (by have := blk_lt HC.out.2.1; omega)
      have hr2 := HC.out.2.2.2.1.under hb2
      have he2 := HC.out.2.2.2.2.1.own hb2
      clear d0 p0 p1 p2 p3 q0 q1 q2 q3 c0 f0
      obtain ⟨p0, p1, p2, p3, q0, q1, q2, q3⟩ := cells4 hk2
      have H2 := Lib.hid (And.intro hc2 (And.intro hk2 (And.intro f2 (And.intro hr2 he2))))
      clear hc2 hk2 f2 hr2 he2 hb2
      go_wp2_with fail
      refine (hNm _).mono ?_
      rintro e w3 ⟨rfl, hb3⟩
      have hc3 := blk_below H2.out.1 hb3 (blk_lt H2.out.1)
      have hk3 := blk_below H2.out.2.1 hb3 (blk_lt H2.out.2.1)
      have f3 : Fr (· = c) F w w3 := H2.out.2.2.1.below hb3 (by have := blk_lt H2.out.2.1; omega)
      have hr3 := H2.out.2.2.2.1.under hb3
      have he3 := H2.out.2.2.2.2.own hb3
      clear H2 p0 p1 p2 p3 q0 q1 q2 q3
      obtain ⟨p0, p1, p2, p3, q0, q1, q2, q3⟩ := cells4 hk3
      have H2 := Lib.hid (And.intro hc3 (And.intro hk3 (And.intro f3 (And.intro hr3 he3))))
      clear hc3 hk3 f3 hr3 he3 hb3
      go_wp2_with fail
      go_ret
      refine ⟨?_, H2.out.1, fun _ => by omega, h4096, by rw [hF]; exact H2.out.2.2.1⟩
      have hnk := HNK.out
      subst hnk
      cases kids with
      | nil => rfl
      | cons a b => exact ret_of (bool_of (by simp; omega))
    have hk56 : k = 5 ∨ k = 6 := by omega
    rw [if_neg h56] at hN2
    have HN2 := Lib.hid hN2.out
    clear hN2 h56
    by_cases hd : deep = 64
    · have hR : Hid (rightT (.mk k t (x :: y) kids) left deep = (false, left - 1)) := by show _ = _; rw [HN2.out, if_pos (.inl hd)]
      rw [hR.out]
      clear hR HN2 hG1'
      subst hd
      rcases hk56 with rfl | rfl
      · go_enter Tryz.func28, Tryz.ntmps28
        go_wp2_with fail
        refine hTx.mono ?_
        rintro e w2 ⟨rfl, hb2⟩
        have hc2 := blk_below HC.out.1 hb2 (blk_lt HC.out.1)
        have hk2 := blk_below HC.out.2.1 hb2 (blk_lt HC.out.2.1)
        have f2 : Fr (· = c) F w w2 := HC.out.2.2.1.below hb2 (by have := blk_lt HC.out.2.1; omega)
        have hr2 := HC.out.2.2.2.1.under hb2
        have he2 := HC.out.2.2.2.2.1.own hb2
        clear d0 p0 p1 p2 p3 q0 q1 q2 q3 c0 f0
        obtain ⟨p0, p1, p2, p3, q0, q1, q2, q3⟩ := cells4 hk2
        have H2 := Lib.hid (And.intro hc2 (And.intro hk2 (And.intro f2 (And.intro hr2 he2))))
        clear hc2 hk2 f2 hr2 he2 hb2
        go_wp2_with fail
        refine (hNm _).mono ?_
        rintro e w3 ⟨rfl, hb3⟩
        have hc3 := blk_below H2.out.1 hb3 (blk_lt H2.out.1)
        have hk3 := blk_below H2.out.2.1 hb3 (blk_lt H2.out.2.1)
        have f3 : Fr (· = c) F w w3 := H2.out.2.2.1.below hb3 (by have := blk_lt H2.out.2.1; omega)
        have hr3 := H2.out.2.2.2.1.under hb3
        have he3 := H2.out.2.2.2.2.own hb3
        clear H2 p0 p1 p2 p3 q0 q1 q2 q3
        obtain ⟨p0, p1, p2, p3, q0, q1, q2, q3⟩ := cells4 hk3
        have H2 := Lib.hid (And.intro hc3 (And.intro hk3 (And.intro f3 (And.intro hr3 he3))))
        clear hc3 hk3 f3 hr3 he3 hb3
        go_wp2_with fail
        go_ret
        exact ⟨rfl, H2.out.1, fun h => (by cases h), h4096, by rw [hF]; exact H2.out.2.2.1⟩
      · go_enter Tryz.func28, Tryz.ntmps28
        go_wp2_with fail
        refine hTx.mono ?_
        rintro e w2 ⟨rfl, hb2⟩
        have hc2 := blk_below HC.out.1 hb2 (blk_lt HC.out.1)
        have hk2 := blk_below HC.out.2.1 hb2 (blk_lt HC.out.2.1)
        have f2 : Fr (· = c) F w w2 := HC.out.2.2.1.below hb2 (by have := blk_lt HC.out.2.1; omega)
        have hr2 := HC.out.2.2.2.1.under hb2
        have he2 := HC.out.2.2.2.2.1.own hb2
        clear d0 p0 p1 p2 p3 q0 q1 q2 q3 c0 f0
        obtain ⟨p0, p1, p2, p3, q0, q1, q2, q3⟩ := cells4 hk2
        have H2 := Lib.hid (And.intro hc2 (And.intro hk2 (And.intro f2 (And.intro hr2 he2))))
        clear hc2 hk2 f2 hr2 he2 hb2
        go_wp2_with fail
        refine (hNm _).mono ?_
        rintro e w3 ⟨rfl, hb3⟩
        have hc3 := blk_below H2.out.1 hb3 (blk_lt H2.out.1)
        have hk3 := blk_below H2.out.2.1 hb3 (blk_lt H2.out.2.1)
        have f3 : Fr (· = c) F w w3 := H2.out.2.2.1.below hb3 (by have := blk_lt H2.out.2.1; omega)
        have hr3 := H2.out.2.2.2.1.under hb3
        have he3 := H2.out.2.2.2.2.own hb3
        clear H2 p0 p1 p2 p3 q0 q1 q2 q3
        obtain ⟨p0, p1, p2, p3, q0, q1, q2, q3⟩ := cells4 hk3
        have H2 := Lib.hid (And.intro hc3 (And.intro hk3 (And.intro f3 (And.intro hr3 he3))))
        clear hc3 hk3 f3 hr3 he3 hb3
        go_wp2_with fail
        go_ret
        exact ⟨rfl, H2.out.1, fun h => (by cases h), h4096, by rw [hF]; exact H2.out.2.2.1⟩
    have hdB : (deep == 64) = false := by simpa using hd
    by_cases hodd : k = 6 ∧ kids.length % 2 ≠ 0
    · obtain ⟨rfl, hodd⟩ := hodd
      have hR : Hid (rightT (.mk 6 t (x :: y) kids) left deep = (false, left - 1)) := by show _ = _; rw [HN2.out, if_pos (.inr ⟨rfl, hodd⟩)]
      rw [hR.out]
      have hno : ((n : Int) % 2 != 0) = true := by
        have := HNK.out
        simp
        omega
      clear hR hm HN2 hG1' hodd
      go_enter Tryz.func28, Tryz.ntmps28
      go_wp2_with fail
      refine hTx.mono ?_
      rintro e w2 ⟨rfl, hb2⟩
      have hc2 := blk_below HC.out.1 hb2 (blk_lt HC.out.1)
      have hk2 := blk_below HC.out.2.1 hb2 (blk_lt HC.out.2.1)
      have f2 : Fr (· = c) F w w2 := HC.out.2.2.1.below hb2 (by have := blk_lt HC.out.2.1; omega)
      have hr2 := HC.out.2.2.2.1.under hb2
      have he2 := HC.out.2.2.2.2.1.own hb2
      clear d0 p0 p1 p2 p3 q0 q1 q2 q3 c0 f0
      obtain ⟨p0, p1, p2, p3, q0, q1, q2, q3⟩ := cells4 hk2
      have H2 := Lib.hid (And.intro hc2 (And.intro hk2 (And.intro f2 (And.intro hr2 he2))))
      clear hc2 hk2 f2 hr2 he2 hb2
      go_wp2_with fail
      refine (hNm _).mono ?_
      rintro e w3 ⟨rfl, hb3⟩
      have hc3 := blk_below H2.out.1 hb3 (blk_lt H2.out.1)
      have hk3 := blk_below H2.out.2.1 hb3 (blk_lt H2.out.2.1)
      have f3 : Fr (· = c) F w w3 := H2.out.2.2.1.below hb3 (by have := blk_lt H2.out.2.1; omega)
      have hr3 := H2.out.2.2.2.1.under hb3
      have he3 := H2.out.2.2.2.2.own hb3
      clear H2 p0 p1 p2 p3 q0 q1 q2 q3
      obtain ⟨p0, p1, p2, p3, q0, q1, q2, q3⟩ := cells4 hk3
      have H2 := Lib.hid (And.intro hc3 (And.intro hk3 (And.intro f3 (And.intro hr3 he3))))
      clear hc3 hk3 f3 hr3 he3 hb3
      go_wp2_with fail
      go_ret
      exact ⟨rfl, H2.out.1, fun h => (by cases h), h4096, by rw [hF]; exact H2.out.2.2.1⟩
    have hR : Hid (rightT (.mk k t (x :: y) kids) left deep = rightL (decide (k = 6)) kids 0 (left - 1) (deep + 1)) := by show _ = _; rw [HN2.out, if_neg (fun h => by rcases h with h | h; exact hd h; exact hodd h)]
    rw [hR.out]
    exact HL.out hk56 (by cases hx : isTextB k t with | true => rfl | false => exact absurd (.inr (.inr (.inr hx))) hG1'.out) (by omega) hd (fun h => by rcases Nat.mod_two_eq_zero_or_one kids.length with h2 | h2; exact h2; exact absurd ⟨h, by omega⟩ hodd) (fun h => hn)
  · have hN2 : Hid (rightT (.mk k t [] kids) left deep = if k ≠ 5 ∧ k ≠ 6 then (kids.isEmpty, left - 1) else if deep = 64 ∨ (k = 6 ∧ kids.length % 2 ≠ 0) then (false, left - 1) else rightL (decide (k = 6)) kids 0 (left - 1) (deep + 1)) := by
      show _ = _
      rw [rightT_mk, if_neg hG1'.out, if_neg (fun h => by rcases h.1 with h | h; exact h rfl; rw [h] at h7; exact absurd h7 (by decide))]
    by_cases h56 : k ≠ 5 ∧ k ≠ 6
    · have hR : Hid (rightT (.mk k t [] kids) left deep = (kids.isEmpty, left - 1)) := by show _ = _; rw [hN2.out, if_pos h56]
      have b5 : (k != 5) = true := by simpa using h56.1
      have b6 : (k != 6) = true := by simpa using h56.2
      rw [hR.out]
      clear hR hm h56 hN2
      go_enter Tryz.func28, Tryz.ntmps28
      go_wp2_with fail
      refine hTx.mono ?_
      rintro e w2 ⟨rfl, hb2⟩
      have hc2 := blk_below HC.out.1 hb2 (blk_lt HC.out.1)
      have hk2 := blk_below HC.out.2.1 hb2 (blk_lt HC.out.2.1)
      have f2 : Fr (· = c) F w w2 := HC.out.2.2.1.below hb2 (by have := blk_lt HC.out.2.1; omega)
      have hr2 := HC.out.2.2.2.1.under hb2
      have he2 := HC.out.2.2.2.2.1.own hb2
      clear d0 p0 p1 p2 p3 q0 q1 q2 q3 c0 f0
      obtain ⟨p0, p1, p2, p3, q0, q1, q2, q3⟩ := cells4 hk2
      have H2 := Lib.hid (And.intro hc2 (And.intro hk2 (And.intro f2 (And.intro hr2 he2))))
      clear hc2 hk2 f2 hr2 he2 hb2
      go_wp2_with fail
      go_ret
      refine ⟨?_, H2.out.1, fun _ => by omega, h4096, by rw [hF]; exact H2.out.2.2.1⟩
      have hnk := HNK.out
      subst hnk
      cases kids with
      | nil => rfl
      | cons a b => exact ret_of (bool_of (by simp; omega))
    have hk56 : k = 5 ∨ k = 6 := by omega
    rw [if_neg h56] at hN2
    have HN2 := Lib.hid hN2.out
    clear hN2 h56
    by_cases hd : deep = 64
    · have hR : Hid (rightT (.mk k t [] kids) left deep = (false, left - 1)) := by show _ = _; rw [HN2.out, if_pos (.inl hd)]
      rw [hR.out]
      clear hR HN2 hG1'
      subst hd
      rcases hk56 with rfl | rfl
      · go_enter Tryz.func28, Tryz.ntmps28
        go_wp2_with fail
        refine hTx.mono ?_
        rintro e w2 ⟨rfl, hb2⟩
        have hc2 := blk_below HC.out.1 hb2 (blk_lt HC.out.1)
        have hk2 := blk_below HC.out.2.1 hb2 (blk_lt HC.out.2.1)
        have f2 : Fr (· = c) F w w2 := HC.out.2.2.1.below hb2 (by have := blk_lt HC.out.2.1; omega)
        have hr2 := HC.out.2.2.2.1.under hb2
        have he2 := HC.out.2.2.2.2.1.own hb2
        clear d0 p0 p1 p2 p3 q0 q1 q2 q3 c0 f0
        obtain ⟨p0, p1, p2, p3, q0, q1, q2, q3⟩ := cells4 hk2
        have H2 := Lib.hid (And.intro hc2 (And.intro hk2 (And.intro f2 (And.intro hr2 he2))))
        clear hc2 hk2 f2 hr2 he2 hb2
        go_wp2_with fail
        go_ret
        exact ⟨rfl, H2.out.1, fun h => (by cases h), h4096, by rw [hF]; exact H2.out.2.2.1⟩
      · go_enter Tryz.func28, Tryz.ntmps28
        go_wp2_with fail
        refine hTx.mono ?_
        rintro e w2 ⟨rfl, hb2⟩
        have hc2 := blk_below HC.out.1 hb2 (blk_lt HC.out.1)
        have hk2 := blk_below HC.out.2.1 hb2 (blk_lt HC.out.2.1)
        have f2 : Fr (· = c) F w w2 := HC.out.2.2.1.below hb2 (by have := blk_lt HC.out.2.1; omega)
        have hr2 := HC.out.2.2.2.1.under hb2
        have he2 := HC.out.2.2.2.2.1.own hb2
        clear d0 p0 p1 p2 p3 q0 q1 q2 q3 c0 f0
        obtain ⟨p0, p1, p2, p3, q0, q1, q2, q3⟩ := cells4 hk2
        have H2 := Lib.hid (And.intro hc2 (And.intro hk2 (And.intro f2 (And.intro hr2 he2))))
        clear hc2 hk2 f2 hr2 he2 hb2
        go_wp2_with fail
        go_ret
        exact ⟨rfl, H2.out.1, fun h => (by cases h), h4096, by rw [hF]; exact H2.out.2.2.1⟩
    have hdB : (deep == 64) = false := by simpa using hd
    by_cases hodd : k = 6 ∧ kids.length % 2 ≠ 0
    · obtain ⟨rfl, hodd⟩ := hodd
      have hR : Hid (rightT (.mk 6 t [] kids) left deep = (false, left - 1)) := by show _ = _; rw [HN2.out, if_pos (.inr ⟨rfl, hodd⟩)]
      rw [hR.out]
      have hno : ((n : Int) % 2 != 0) = true := by
        have := HNK.out
        simp
        omega
      clear hR hm HN2 hG1' hodd
      go_enter Tryz.func28, Tryz.ntmps28
      go_wp2_with fail
      refine hTx.mono ?_
      rintro e w2 ⟨rfl, hb2⟩
      have hc2 := blk_below HC.out.1 hb2 (blk_lt HC.out.1)
      have hk2 := blk_below HC.out.2.1 hb2 (blk_lt HC.out.2.1)
      have f2 : Fr (· = c) F w w2 := HC.out.2.2.1.below hb2 (by have := blk_lt HC.out.2.1; omega)
      have hr2 := HC.out.2.2.2.1.under hb2
      have he2 := HC.out.2.2.2.2.1.own hb2
      clear d0 p0 p1 p2 p3 q0 q1 q2 q3 c0 f0
      obtain ⟨p0, p1, p2, p3, q0, q1, q2, q3⟩ := cells4 hk2
      have H2 := Lib.hid (And.intro hc2 (And.intro hk2 (And.intro f2 (And.intro hr2 he2))))
      clear hc2 hk2 f2 hr2 he2 hb2
      go_wp2_with fail
      go_ret
      exact ⟨rfl, H2.out.1, fun h => (by cases h), h4096, by rw [hF]; exact H2.out.2.2.1⟩
    have hR : Hid (rightT (.mk k t [] kids) left deep = rightL (decide (k = 6)) kids 0 (left - 1) (deep + 1)) := by show _ = _; rw [HN2.out, if_neg (fun h => by rcases h with h | h; exact hd h; exact hodd h)]
    rw [hR.out]
    exact HL.out hk56 (by cases hx : isTextB k t with | true => rfl | false => exact absurd (.inr (.inr (.inr hx))) hG1'.out) (by omega) hd (fun h => by rcases Nat.mod_two_eq_zero_or_one kids.length with h2 | h2; exact h2; exact absurd ⟨h, by omega⟩ hodd) (fun h => absurd rfl h)
end Go.Proofs.YtbmonfcahhhdeaaGreatDoor
