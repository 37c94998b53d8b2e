/- The walk of FlowAgain. -/
import Derived.Test.YtbmonfcahhhdeaaGreatDoorAgainA
import Derived.Test.YtbmonfcahhhdeaaGreatDoorMay3
import Derived.Test.YtbmonfcahhhdeaaGreatDoorSame1
import Derived.Test.YtbmonfcahhhdeaaGreatDoorAlive2
set_option linter.unusedVariables false
set_option linter.unusedSimpArgs false
namespace Go.Proofs.YtbmonfcahhhdeaaGreatDoor
open Go.RowKit

/-- Whole's contract, at every text. -/
theorem flow_Whole_any (n : Nat) (hn : n < 4294967296) (s : Bs) (t : T) (y a : Int) (hm : wholeM (n + 1) s = some (t, y, a)) (G : Nat) (w : World) (he : Env G w) :
    Calls Tryz.prog 13 #[St s] w fun e w' => (∃ v, Rep1 w' (fun b => w.heap.size ≤ b) t v ∧ e = .returned (.tuple #[v, Ft y a])) ∧ Below w.heap.size w w' := by
  by_cases hs : s.length ≤ 65536
  · exact flow_Whole n hn s hs t y a hm G w he
  · unfold wholeM at hm
    rw [if_pos (by omega)] at hm
    simp only [Option.some.injEq, Prod.mk.injEq] at hm
    obtain ⟨rfl, rfl, rfl⟩ := hm
    refine (flow_Whole_long s (by omega) w).mono ?_
    rintro e w' ⟨rfl, hb⟩
    exact ⟨⟨_, rep_leaf _ _ _ _ _, rfl⟩, hb⟩
theorem whole_long (n : Nat) (s : Bs) (h : 65536 < s.length) : wholeM n s = some (zeroT, 5, 0) := by
  unfold wholeM
  rw [if_pos h]
/-- A fault's tree is the zero tree. -/
theorem whole_zero (n : Nat) (s : Bs) (t : T) (y a : Int) (h : wholeM (n + 1) s = some (t, y, a)) : (y = 0 ∧ a = 0) ∨ (y ≠ 0 ∧ t = zeroT) := by
  unfold wholeM at h
  split at h
  · simp only [Option.some.injEq, Prod.mk.injEq] at h
    exact .inr ⟨by omega, h.1.symm⟩
  rcases hr : readM (n + 1) s false with _ | ⟨t', k, y', a'⟩
  · rw [hr] at h; cases h
  rw [hr] at h
  dsimp only at h
  rcases read_cases n s false t' k y' a' hr with ⟨rfl, rfl, _, _⟩ | ⟨h1, _, _⟩
  · rw [if_neg (by simp)] at h
    split at h
    · simp only [Option.some.injEq, Prod.mk.injEq] at h
      exact .inr ⟨by omega, h.1.symm⟩
    · simp only [Option.some.injEq, Prod.mk.injEq] at h
      exact .inl ⟨h.2.1.symm, h.2.2.symm⟩
  · rw [if_pos (fun x => h1 x.1)] at h
    simp only [Option.some.injEq, Prod.mk.injEq] at h
    exact .inr ⟨by omega, h.1.symm⟩
set_option maxHeartbeats 16000000 in
set_option maxRecDepth 100000 in
theorem again_walk (s : Bs) (hs0 : s.length ≤ 140737488355328) (w : World) (he : Env w.heap.size w) :
    Calls Tryz.prog 4 #[St s] w fun e w' => e = .returned (.bool true) ∧ Below w.heap.size w w' := by
  have HE := Lib.hid he
  clear he
  go_enter Tryz.func4, Tryz.ntmps4
  by_cases hbig : 8000 < s.length
  · have hbig' : (s.length : Int) > 8000 := by omega
    have hAl := law_alive w.heap.size _ HE.out
    go_wp2_with fail
    refine hAl.mono ?_
    rintro e w1 ⟨rfl, hb1⟩
    go_wp2_with fail
    go_ret
    exact ⟨rfl, hb1⟩
  · have hbig' : ¬ ((s.length : Int) > 8000) := by omega
    obtain ⟨t1, y1, a1, hm1⟩ := whole_total (9000 + 1) s (by omega)
    have hz1 := whole_zero _ _ _ _ _ hm1
    have hfit := whole_fit (9000 + 1) (by decide) s t1 y1 a1 hm1
    have hW1 := fun w' he' => flow_Whole 9000 (by decide) s (by omega) t1 y1 a1 hm1 w.heap.size w' he'
    have hright : y1 = 0 → a1 = 0 → (rightT t1 4096 0).1 = true ∨ 4096 ≤ s.length := fun e1 e2 => whole_right _ s t1 (by rw [hm1, e1, e2])
    have hfb := whole_fitB (9000 + 1) s t1 y1 a1 hm1
    have hput : (rightT t1 4096 0).1 = true → (putT t1).length ≤ 140737488355328 := fun h => put_short hfb (by omega) h
    have hback : (rightT t1 4096 0).1 = true → (wholeM (9000 + 1) (putT t1) = some (t1, 0, 0) ∧ (putT t1).length ≤ 65536) ∨ (wholeM (9000 + 1) (putT t1) = some (zeroT, 5, 0) ∧ 65536 < (putT t1).length) := fun h => by
      by_cases c : (putT t1).length ≤ 65536
      · exact .inl ⟨whole_put t1 h c 9000 (by omega), c⟩
      · exact .inr ⟨whole_long _ _ (by omega), by omega⟩
    obtain ⟨k1, x1, n1, ks1⟩ := t1
    have HL := Lib.hid (And.intro hz1 (And.intro hfit (And.intro hright (And.intro hput hback))))
    clear hm1 hz1 hfit hright hfb hput hback
    go_wp2_with fail
    refine (hW1 _ HE.out).mono ?_
    rintro e w1 ⟨⟨v, hq1, rfl⟩, hb1⟩
    obtain ⟨A1, c1, rfl, hr1⟩ := hq1.shape
    obtain ⟨X1, hX1⟩ : ∃ X, w1.heap.size = X := ⟨_, rfl⟩
    obtain ⟨p1, q1, bl1, sz1⟩ := laid2_facts w1 k1 x1 n1 A1 ks1.length c1 y1 a1 X1 hX1
    have bz1 : Below w.heap.size w (laid2 w1 k1 x1 n1 A1 ks1.length c1 y1 a1) := hb1.trans (bl1.mono (by rw [← hX1]; exact hb1.size))
    have be1 := HE.out.own bz1
    have rr1 := hr1.see.old (by rw [hX1]; exact bl1)
    obtain ⟨u0, u1, u2, u3, _, _, _, _⟩ := cells4 p1
    obtain ⟨v0, v1, _, _⟩ := cells2 q1
    have H1 := Lib.hid (And.intro p1 (And.intro q1 (And.intro rr1 (And.intro bz1 be1))))
    clear hq1 hr1 hb1 p1 q1 bl1 sz1 be1 rr1 bz1 hW1
    rcases HL.out.1 with ⟨rfl, rfl⟩ | ⟨hy, hzero⟩
    · cases hR : (rightT (.mk k1 x1 n1 ks1) 4096 0).1 with
      | true =>
        have hWr := flow_Write_ok k1 x1 n1 ks1 A1 _ c1 HL.out.2.1 hR (HL.out.2.2.2.1 hR) w.heap.size _ _ H1.out.2.2.2.2 (fun b h => h) H1.out.2.2.1
        have HBK := Lib.hid (HL.out.2.2.2.2 hR)
        obtain ⟨Y, hY⟩ : ∃ Y, putT (.mk k1 x1 n1 ks1) = Y := ⟨_, rfl⟩
        rw [hY] at hWr HBK
        clear hR hY
        go_wp2_with fail
        refine hWr.mono ?_
        rintro e w2 ⟨rfl, hb2⟩
        have p1 := blk_below H1.out.1 hb2 (blk_lt H1.out.1)
        have q1 := blk_below H1.out.2.1 hb2 (blk_lt H1.out.2.1)
        have rr1 := H1.out.2.2.1.old hb2
        have bz2 : Below w.heap.size w w2 := H1.out.2.2.2.1.trans (hb2.mono H1.out.2.2.2.1.size)
        have be2 := HE.out.own bz2
        clear u0 u1 u2 u3 v0 v1
        obtain ⟨u0, u1, u2, u3, _, _, _, _⟩ := cells4 p1
        obtain ⟨v0, v1, _, _⟩ := cells2 q1
        have H2 := Lib.hid (And.intro p1 (And.intro q1 (And.intro rr1 (And.intro bz2 be2))))
        clear p1 q1 rr1 bz2 be2 hb2 hWr
        rcases HBK.out with ⟨hm2, hl2⟩ | ⟨hm2, hl2⟩
        · have hC2 := flow_Whole_any 9000 (by decide) Y _ _ _ hm2 w.heap.size _ H2.out.2.2.2.2
          have hl2' : ¬ ((Y.length : Int) > 65536) := by omega
          clear hm2
          go_wp2_with fail
          refine hC2.mono ?_
          rintro e w3 ⟨⟨v, hq2, rfl⟩, hb3⟩
          obtain ⟨A2, c2, rfl, hr2⟩ := hq2.shape
          obtain ⟨X2, hX2⟩ : ∃ X, w3.heap.size = X := ⟨_, rfl⟩
          obtain ⟨p2, q2, bl2, sz2⟩ := laid2_facts w3 k1 x1 n1 A2 ks1.length c2 0 0 X2 hX2
          have bw3 : Below w2.heap.size w2 (laid2 w3 k1 x1 n1 A2 ks1.length c2 0 0) := hb3.trans (bl2.mono (by rw [← hX2]; exact hb3.size))
          have bz3 : Below w.heap.size w (laid2 w3 k1 x1 n1 A2 ks1.length c2 0 0) := H2.out.2.2.2.1.trans (bw3.mono H2.out.2.2.2.1.size)
          have rr2 := hr2.see.under (by rw [hX2]; exact bl2)
          have rr1 := H2.out.2.2.1.under bw3
          have p1 := blk_below H2.out.1 bw3 (blk_lt H2.out.1)
          clear u0 u1 u2 u3 v0 v1
          obtain ⟨u0, u1, u2, u3, _, _, _, _⟩ := cells4 p1
          obtain ⟨s0, s1, s2, s3, _, _, _, _⟩ := cells4 p2
          obtain ⟨g0, g1, _, _⟩ := cells2 q2
          have HZ := Lib.hid (And.intro rr1 (And.intro rr2 bz3))
          clear hq2 hr2 hb3 p1 p2 q2 bl2 sz2 bz3 rr1 rr2 bw3 hC2
          go_wp2_with fail
          refine (same_spec _ k1 x1 n1 ks1 A1 A2 _ _ c1 c2 (Nat.lt_succ_self _) HL.out.2.1 _ _ _ HZ.out.1 HZ.out.2.1).mono ?_
          rintro e w4 ⟨rfl, hb4⟩
          have bz4 : Below w.heap.size w w4 := HZ.out.2.2.trans (hb4.mono HZ.out.2.2.size)
          have hAl := law_alive w.heap.size _ (HE.out.own bz4)
          have HB5 := Lib.hid bz4
          clear hb4 bz4
          go_wp2_with fail
          refine hAl.mono ?_
          rintro e w6 ⟨rfl, hb6⟩
          go_wp2_with fail
          go_ret
          exact ⟨rfl, HB5.out.trans (hb6.mono HB5.out.size)⟩
        · have hC2 := flow_Whole_any 9000 (by decide) Y _ _ _ hm2 w.heap.size _ H2.out.2.2.2.2
          have hl2' : (Y.length : Int) > 65536 := by omega
          clear hm2
          go_wp2_with fail
          refine hC2.mono ?_
          rintro e w3 ⟨⟨v, hq2, rfl⟩, hb3⟩
          obtain ⟨A2, c2, rfl, hr2⟩ := hq2.shape
          obtain ⟨X2, hX2⟩ : ∃ X, w3.heap.size = X := ⟨_, rfl⟩
          obtain ⟨p2, q2, bl2, sz2⟩ := laid2_facts w3 0 [] [] A2 0 c2 5 0 X2 hX2
          have bw3 : Below w2.heap.size w2 (laid2 w3 0 [] [] A2 0 c2 5 0) := hb3.trans (bl2.mono (by rw [← hX2]; exact hb3.size))
          have bz3 : Below w.heap.size w (laid2 w3 0 [] [] A2 0 c2 5 0) := H2.out.2.2.2.1.trans (bw3.mono H2.out.2.2.2.1.size)
          have hAl := law_alive w.heap.size _ (HE.out.own bz3)
          clear u0 u1 u2 u3 v0 v1
          obtain ⟨g0, g1, _, _⟩ := cells2 q2
          have HZ := Lib.hid bz3
          clear hq2 hr2 hb3 p2 q2 bl2 sz2 bz3 bw3 hC2
          go_wp2_with fail
          refine hAl.mono ?_
          rintro e w6 ⟨rfl, hb6⟩
          go_wp2_with fail
          go_ret
          exact ⟨rfl, HZ.out.trans (hb6.mono HZ.out.size)⟩
      | false =>
        have hWr := flow_Write_ill k1 x1 n1 ks1 A1 _ c1 HL.out.2.1 hR w.heap.size _ _ H1.out.2.2.2.2 (fun b h => h) H1.out.2.2.1
        have hs4 : (s.length : Int) ≥ 4096 := by
          rcases HL.out.2.2.1 rfl rfl with h | h
          · rw [hR] at h; cases h
          · omega
        have HRR := Lib.hid hR
        clear hR
        go_wp2_with fail
        refine hWr.mono ?_
        rintro e w2 ⟨rfl, hb2⟩
        have p1 := blk_below H1.out.1 hb2 (blk_lt H1.out.1)
        have rr1 := H1.out.2.2.1.old hb2
        have bz2 : Below w.heap.size w w2 := H1.out.2.2.2.1.trans (hb2.mono H1.out.2.2.2.1.size)
        have hRt := flow_Right k1 x1 n1 ks1 A1 _ c1 HL.out.2.1 w.heap.size _ _ (HE.out.own bz2) (fun b h => h) rr1
        rw [HRR.out] at hRt
        clear u0 u1 u2 u3 v0 v1
        obtain ⟨u0, u1, u2, u3, _, _, _, _⟩ := cells4 p1
        have HB2 := Lib.hid bz2
        clear p1 rr1 bz2 hb2 hWr
        go_wp2_with fail
        refine hRt.mono ?_
        rintro e w3 ⟨rfl, hb3⟩
        have bz3 : Below w.heap.size w w3 := HB2.out.trans (hb3.mono HB2.out.size)
        have hAl := law_alive w.heap.size _ (HE.out.own bz3)
        have HB3 := Lib.hid bz3
        clear bz3 hb3
        go_wp2_with fail
        refine hAl.mono ?_
        rintro e w6 ⟨rfl, hb6⟩
        go_wp2_with fail
        go_ret
        exact ⟨rfl, HB3.out.trans (hb6.mono HB3.out.size)⟩
    · obtain ⟨rfl, rfl, rfl, rfl⟩ : k1 = 0 ∧ x1 = [] ∧ n1 = [] ∧ ks1 = [] := by unfold zeroT at hzero; cases hzero; exact ⟨rfl, rfl, rfl, rfl⟩
      have hy' : (y1 == 0) = false := by simpa using hy
      have hy2 : (y1 != 0) = true := by simpa using hy
      have hS := same_spec _ 0 [] [] [] A1 none _ 0 c1 0 (Nat.lt_succ_self _) HL.out.2.1 _ (fun _ => True) _ H1.out.2.2.1 (.cons 0 [] [] [] (.slice none 0 0) [] [] [] ⟨rfl, .inl ⟨rfl, rfl⟩⟩ (fun _ _ _ => trivial) .nil .nil)
      clear hy hzero
      go_wp2_with fail
      refine hS.mono ?_
      rintro e w4 ⟨rfl, hb4⟩
      have bz4 : Below w.heap.size w w4 := H1.out.2.2.2.1.trans (hb4.mono H1.out.2.2.2.1.size)
      have hAl := law_alive w.heap.size _ (HE.out.own bz4)
      have HB5 := Lib.hid bz4
      clear hb4 bz4
      go_wp2_with fail
      refine hAl.mono ?_
      rintro e w6 ⟨rfl, hb6⟩
      go_wp2_with fail
      go_ret
      exact ⟨rfl, HB5.out.trans (hb6.mono HB5.out.size)⟩
end Go.Proofs.YtbmonfcahhhdeaaGreatDoor
