/- The walk of the law's far; what a tree that is not far is; the walk of FlowBack. -/
import Derived.Test.YtbmonfcahhhdeaaGreatDoorBackA
import Derived.Test.YtbmonfcahhhdeaaGreatDoorAgainB
set_option linter.unusedVariables false
set_option linter.unusedSimpArgs false
namespace Go.Proofs.YtbmonfcahhhdeaaGreatDoor
open Go.RowKit

theorem smallL_ok (n : Nat) (ih : ∀ (t : T) (deep left : Int), SizeOf.sizeOf t < n → left ≤ 5000 → (smallT t deep left).1 = true → FitB 3000 [t] ∧ Fit [t] ∧ 0 ≤ (smallT t deep left).2 ∧ (smallT t deep left).2 ≤ left - 1) :
    ∀ (ts : List T) (deep left : Int), SizeOf.sizeOf ts < n → left ≤ 5000 → 0 ≤ left → (smallL ts deep left).1 = true → FitB 3000 ts ∧ Fit ts ∧ 0 ≤ (smallL ts deep left).2 ∧ (smallL ts deep left).2 + ts.length ≤ left := by
  intro ts
  induction ts with
  | nil => intro deep left _ _ h0 h; rw [smallL_nil]; exact ⟨.nil, .nil, h0, by simp⟩
  | cons t ts ihl =>
    intro deep left hs hl h0 h
    simp only [List.cons.sizeOf_spec] at hs
    rw [smallL_cons] at h ⊢
    by_cases c : (smallT t deep left).1 = true
    · rw [if_pos c] at h ⊢
      obtain ⟨a1, a2, a3, a4⟩ := ih t deep left (by omega) hl c
      obtain ⟨b1, b2, b3, b4⟩ := ihl deep (smallT t deep left).2 (by omega) (by omega) a3 h
      exact ⟨FitB.append (a := [t]) a1 b1, Fit.append (a := [t]) a2 b2, b3, by rw [List.length_cons]; omega⟩
    · rw [if_neg c] at h; cases h
theorem smallT_ok : ∀ (n : Nat) (t : T) (deep left : Int), SizeOf.sizeOf t < n → left ≤ 5000 → (smallT t deep left).1 = true → FitB 3000 [t] ∧ Fit [t] ∧ 0 ≤ (smallT t deep left).2 ∧ (smallT t deep left).2 ≤ left - 1 := by
  intro n
  induction n with
  | zero => intro t deep left h; omega
  | succ n ih =>
    intro t deep left hs hl h
    obtain ⟨k, x, a, kids⟩ := t
    have hsz : SizeOf.sizeOf kids < n := by simp only [T.mk.sizeOf_spec] at hs; omega
    rw [smallT_mk] at h ⊢
    by_cases c : left - 1 < 0 ∨ 80 < deep ∨ 3000 < x.length ∨ 3000 < a.length
    · rw [if_pos c] at h; cases h
    · rw [if_neg c] at h ⊢
      have c1 : ¬ left - 1 < 0 := fun y => c (.inl y)
      have c3 : ¬ 3000 < x.length := fun y => c (.inr (.inr (.inl y)))
      have c4 : ¬ 3000 < a.length := fun y => c (.inr (.inr (.inr y)))
      obtain ⟨b1, b2, b3, b4⟩ := smallL_ok n ih kids (deep + 1) (left - 1) hsz (by omega) (by omega) h
      exact ⟨.cons _ _ _ _ _ (by omega) (by omega) b1 .nil, .cons _ _ _ _ _ (by omega) (by omega) (by omega) b2 .nil, b3, by omega⟩

set_option maxHeartbeats 4000000 in
theorem law_far (k : Int) (t a : Bs) (kids : List T) (A : Option Addr) (n cp : Nat) (K : Nat → Prop) (w : World) (hK : ∀ b, K b → b < w.heap.size) (hr : See w K [.mk k t a kids] [.int .i64 k, St t, St a, .slice A n cp]) :
    Calls Tryz.prog 9 #[.agg #[.int .i64 k, St t, St a, .slice A n cp]] w fun e w' => e = .returned (.bool (!(smallT (.mk k t a kids) 0 5000).1)) ∧ Below w.heap.size w w' := by
  obtain ⟨F, hF⟩ : ∃ F, w.heap.size = F := ⟨_, rfl⟩
  have hb2 : Below F w ((w.alloc (.cells #[.int .i64 k, St t, St a, .slice A n cp] 24)).alloc (.cells #[.int .i64 5000] 3)) := by rw [← hF]; exact ((Below.refl _ _).alloc (Nat.le_refl _) _).alloc (by simp) _
  have hc2 : ((w.alloc (.cells #[.int .i64 k, St t, St a, .slice A n cp] 24)).alloc (.cells #[.int .i64 5000] 3)).heap[F + 1]? = some (.cells #[.int .i64 5000] 3) := by rw [← hF]; exact blk_new1 _ _ _
  have hx2 : ((w.alloc (.cells #[.int .i64 k, St t, St a, .slice A n cp] 24)).alloc (.cells #[.int .i64 5000] 3)).heap[F]? = some (.cells #[.int .i64 k, St t, St a, .slice A n cp] 24) := by rw [← hF]; exact blk_alloc (blk_new _ _)
  have hr2 := hr.under (by rw [hF]; exact hb2)
  have hC := small_spec _ k t a kids A n cp (Nat.lt_succ_self _) (F + 1) 5000 0 K _ (by decide) (by decide) (by decide) (by decide) (fun h => by have := hK _ h; omega) hc2 hr2
  obtain ⟨x0, x1, x2, x3, y0, y1, y2, y3⟩ := cells4 hx2
  have HB := Lib.hid hb2
  generalize smallT (.mk k t a kids) 0 5000 = R at hC ⊢
  clear hr hr2 hc2 hx2 hb2
  go_enter Tryz.func9, Tryz.ntmps9
  go_wp2_with fail
  refine hC.mono ?_
  rintro e w3 ⟨rfl, h1, h2, h3, f3⟩
  go_wp2_with fail
  go_ret
  exact ⟨rfl, by rw [hF]; exact HB.out.trans ((f3.mono (S' := (· = F + 1)) (B' := F) (by simp; omega) (fun _ _ h => h)).toBelow (fun k hk h => by omega))⟩

set_option maxHeartbeats 16000000 in
set_option maxRecDepth 100000 in
theorem back_walk (k1 : Int) (x1 n1 : Bs) (ks1 : List T) (A1 : Option Addr) (m1 c1 : Nat) (w : World) (he : Env w.heap.size w) (hr : See w (fun b => b < w.heap.size) [.mk k1 x1 n1 ks1] [.int .i64 k1, St x1, St n1, .slice A1 m1 c1]) :
    Calls Tryz.prog 3 #[.agg #[.int .i64 k1, St x1, St n1, .slice A1 m1 c1]] w fun e w' => e = .returned (.bool true) ∧ Below w.heap.size w w' := by
  have HE := Lib.hid he
  obtain ⟨X, hX⟩ : ∃ X, w.heap.size = X := ⟨_, rfl⟩
  have hb1 : Below w.heap.size w (w.alloc (.cells #[.int .i64 k1, St x1, St n1, .slice A1 m1 c1] 24)) := (Below.refl _ _).alloc (Nat.le_refl _) _
  have hp : (w.alloc (.cells #[.int .i64 k1, St x1, St n1, .slice A1 m1 c1] 24)).heap[X]? = some (.cells #[.int .i64 k1, St x1, St n1, .slice A1 m1 c1] 24) := by rw [← hX]; exact blk_new _ _
  have rr := hr.old hb1
  have hFar := law_far k1 x1 n1 ks1 A1 m1 c1 _ _ (fun b h => h) rr
  obtain ⟨u0, u1, u2, u3, _, _, _, _⟩ := cells4 hp
  have H0 := Lib.hid (And.intro hp (And.intro rr hb1))
  have hok := smallT_ok _ (.mk k1 x1 n1 ks1) 0 5000 (Nat.lt_succ_self _) (by omega)
  clear he hr hp rr hb1
  go_enter Tryz.func3, Tryz.ntmps3
  cases hS : (smallT (.mk k1 x1 n1 ks1) 0 5000).1 with
  | false =>
    rw [hS] at hFar
    clear hok hS
    go_wp2_with fail
    refine hFar.mono ?_
    rintro e w2 ⟨rfl, hb2⟩
    have bz2 : Below w.heap.size w w2 := H0.out.2.2.trans (hb2.mono H0.out.2.2.size)
    have hAl := law_alive w.heap.size _ (HE.out.own bz2)
    have HB := Lib.hid bz2
    clear bz2 hb2
    go_wp2_with fail
    refine hAl.mono ?_
    rintro e w6 ⟨rfl, hb6⟩
    go_wp2_with fail
    go_ret
    exact ⟨rfl, HB.out.trans (hb6.mono HB.out.size)⟩
  | true =>
    rw [hS] at hFar
    obtain ⟨hfb, hfit, _, _⟩ := hok hS
    have HL := Lib.hid (And.intro hfb hfit)
    clear hok hS hfb hfit
    go_wp2_with fail
    refine hFar.mono ?_
    rintro e w1 ⟨rfl, hb1⟩
    have p1 := blk_below H0.out.1 hb1 (blk_lt H0.out.1)
    have rr1 := H0.out.2.1.old hb1
    have bz1 : Below w.heap.size w w1 := H0.out.2.2.trans (hb1.mono H0.out.2.2.size)
    have be1 := HE.out.own bz1
    clear u0 u1 u2 u3
    obtain ⟨u0, u1, u2, u3, _, _, _, _⟩ := cells4 p1
    have H1 := Lib.hid (And.intro p1 (And.intro rr1 (And.intro bz1 be1)))
    clear p1 rr1 bz1 be1 hb1 hFar
    cases hR : (rightT (.mk k1 x1 n1 ks1) 4096 0).1 with
    | true =>
      have hWr := flow_Write_ok k1 x1 n1 ks1 A1 _ c1 HL.out.2 hR (put_short HL.out.1 (by omega) hR) w.heap.size _ _ H1.out.2.2.2 (fun b h => h) H1.out.2.1
      have HBK : Hid ((wholeM (9000 + 1) (putT (.mk k1 x1 n1 ks1)) = some (.mk k1 x1 n1 ks1, 0, 0) ∧ (putT (.mk k1 x1 n1 ks1)).length ≤ 65536) ∨ (wholeM (9000 + 1) (putT (.mk k1 x1 n1 ks1)) = some (zeroT, 5, 0) ∧ 65536 < (putT (.mk k1 x1 n1 ks1)).length)) := by
        show _ ∨ _
        by_cases c : (putT (.mk k1 x1 n1 ks1)).length ≤ 65536
        · exact .inl ⟨whole_put _ hR c 9000 (by omega), c⟩
        · exact .inr ⟨whole_long _ _ (by omega), by omega⟩
      obtain ⟨Y, hY⟩ : ∃ Y, putT (.mk k1 x1 n1 ks1) = Y := ⟨_, rfl⟩
      rw [hY] at hWr HBK
      clear hR hY
      go_wp2_with fail
      refine hWr.mono ?_
      rintro e w2 ⟨rfl, hb2⟩
      have p1 := blk_below H1.out.1 hb2 (blk_lt H1.out.1)
      have rr1 := H1.out.2.1.old hb2
      have bz2 : Below w.heap.size w w2 := H1.out.2.2.1.trans (hb2.mono H1.out.2.2.1.size)
      have be2 := HE.out.own bz2
      clear u0 u1 u2 u3
      obtain ⟨u0, u1, u2, u3, _, _, _, _⟩ := cells4 p1
      have H2 := Lib.hid (And.intro p1 (And.intro rr1 (And.intro bz2 be2)))
      clear p1 rr1 bz2 be2 hb2 hWr
      rcases HBK.out with ⟨hm2, hl2⟩ | ⟨hm2, hl2⟩
      · have hC2 := flow_Whole_any 9000 (by decide) Y _ _ _ hm2 w.heap.size _ H2.out.2.2.2
        have hl2' : ¬ ((Y.length : Int) > 65536) := by omega
        clear hm2
        go_wp2_with fail
        refine hC2.mono ?_
        rintro e w3 ⟨⟨v, hq2, rfl⟩, hb3⟩
        obtain ⟨A2, c2, rfl, hr2⟩ := hq2.shape
        obtain ⟨X2, hX2⟩ : ∃ X, w3.heap.size = X := ⟨_, rfl⟩
        obtain ⟨p2, q2, bl2, sz2⟩ := laid2_facts w3 k1 x1 n1 A2 ks1.length c2 0 0 X2 hX2
        have bw3 : Below w2.heap.size w2 (laid2 w3 k1 x1 n1 A2 ks1.length c2 0 0) := hb3.trans (bl2.mono (by rw [← hX2]; exact hb3.size))
        have bz3 : Below w.heap.size w (laid2 w3 k1 x1 n1 A2 ks1.length c2 0 0) := H2.out.2.2.1.trans (bw3.mono H2.out.2.2.1.size)
        have rr2 := hr2.see.under (by rw [hX2]; exact bl2)
        have rr1 := H2.out.2.1.under bw3
        have p1 := blk_below H2.out.1 bw3 (blk_lt H2.out.1)
        clear u0 u1 u2 u3
        obtain ⟨u0, u1, u2, u3, _, _, _, _⟩ := cells4 p1
        obtain ⟨s0, s1, s2, s3, _, _, _, _⟩ := cells4 p2
        obtain ⟨g0, g1, _, _⟩ := cells2 q2
        have HZ := Lib.hid (And.intro rr1 (And.intro rr2 bz3))
        clear hq2 hr2 hb3 p1 p2 q2 bl2 sz2 bz3 rr1 rr2 bw3 hC2
        go_wp2_with fail
        refine (same_spec _ k1 x1 n1 ks1 A1 A2 _ _ c1 c2 (Nat.lt_succ_self _) HL.out.2 _ _ _ HZ.out.1 HZ.out.2.1).mono ?_
        rintro e w4 ⟨rfl, hb4⟩
        have bz4 : Below w.heap.size w w4 := HZ.out.2.2.trans (hb4.mono HZ.out.2.2.size)
        have hAl := law_alive w.heap.size _ (HE.out.own bz4)
        have HB5 := Lib.hid bz4
        clear hb4 bz4
        go_wp2_with fail
        refine hAl.mono ?_
        rintro e w6 ⟨rfl, hb6⟩
        go_wp2_with fail
        go_ret
        exact ⟨rfl, HB5.out.trans (hb6.mono HB5.out.size)⟩
      · have hC2 := flow_Whole_any 9000 (by decide) Y _ _ _ hm2 w.heap.size _ H2.out.2.2.2
        have hl2' : (Y.length : Int) > 65536 := by omega
        clear hm2
        go_wp2_with fail
        refine hC2.mono ?_
        rintro e w3 ⟨⟨v, hq2, rfl⟩, hb3⟩
        obtain ⟨A2, c2, rfl, hr2⟩ := hq2.shape
        obtain ⟨X2, hX2⟩ : ∃ X, w3.heap.size = X := ⟨_, rfl⟩
        obtain ⟨p2, q2, bl2, sz2⟩ := laid2_facts w3 0 [] [] A2 0 c2 5 0 X2 hX2
        have bw3 : Below w2.heap.size w2 (laid2 w3 0 [] [] A2 0 c2 5 0) := hb3.trans (bl2.mono (by rw [← hX2]; exact hb3.size))
        have bz3 : Below w.heap.size w (laid2 w3 0 [] [] A2 0 c2 5 0) := H2.out.2.2.1.trans (bw3.mono H2.out.2.2.1.size)
        have hAl := law_alive w.heap.size _ (HE.out.own bz3)
        clear u0 u1 u2 u3
        obtain ⟨g0, g1, _, _⟩ := cells2 q2
        have HZ := Lib.hid bz3
        clear hq2 hr2 hb3 p2 q2 bl2 sz2 bz3 bw3 hC2
        go_wp2_with fail
        refine hAl.mono ?_
        rintro e w6 ⟨rfl, hb6⟩
        go_wp2_with fail
        go_ret
        exact ⟨rfl, HZ.out.trans (hb6.mono HZ.out.size)⟩
    | false =>
      have hWr := flow_Write_ill k1 x1 n1 ks1 A1 _ c1 HL.out.2 hR w.heap.size _ _ H1.out.2.2.2 (fun b h => h) H1.out.2.1
      have HRR := Lib.hid hR
      clear hR
      go_wp2_with fail
      refine hWr.mono ?_
      rintro e w2 ⟨rfl, hb2⟩
      have p1 := blk_below H1.out.1 hb2 (blk_lt H1.out.1)
      have rr1 := H1.out.2.1.old hb2
      have bz2 : Below w.heap.size w w2 := H1.out.2.2.1.trans (hb2.mono H1.out.2.2.1.size)
      have hRt := flow_Right k1 x1 n1 ks1 A1 _ c1 HL.out.2 w.heap.size _ _ (HE.out.own bz2) (fun b h => h) rr1
      rw [HRR.out] at hRt
      clear u0 u1 u2 u3
      obtain ⟨u0, u1, u2, u3, _, _, _, _⟩ := cells4 p1
      have HB2 := Lib.hid bz2
      clear p1 rr1 bz2 hb2 hWr
      go_wp2_with fail
      refine hRt.mono ?_
      rintro e w3 ⟨rfl, hb3⟩
      have bz3 : Below w.heap.size w w3 := HB2.out.trans (hb3.mono HB2.out.size)
      have hAl := law_alive w.heap.size _ (HE.out.own bz3)
      have HB3 := Lib.hid bz3
      clear bz3 hb3
      go_wp2_with fail
      refine hAl.mono ?_
      rintro e w6 ⟨rfl, hb6⟩
      go_wp2_with fail
      go_ret
      exact ⟨rfl, HB3.out.trans (hb6.mono HB3.out.size)⟩
end Go.Proofs.YtbmonfcahhhdeaaGreatDoor
