/- The walk of FlowBlanks. -/
import Derived.Test.YtbmonfcahhhdeaaGreatDoorBlankA
import Derived.Test.YtbmonfcahhhdeaaGreatDoorDeep4
import Derived.Test.YtbmonfcahhhdeaaGreatDoorSame1
set_option linter.unusedVariables false
set_option linter.unusedSimpArgs false
namespace Go.Proofs.YtbmonfcahhhdeaaGreatDoor
open Go.RowKit

theorem sp_add (i : Nat) : sp i ++ [32] = sp (i + 1) := by rw [sp, sp, List.replicate_succ']
set_option maxHeartbeats 16000000 in
set_option maxRecDepth 100000 in
theorem blanks_walk (s : Bs) (hs0 : s.length ≤ 140737488355328) (m : Nat) (hm : m < 256) (w : World) (he : Env w.heap.size w) :
    Calls Tryz.prog 5 #[St s, .int .u8 m] w fun e w' => e = .returned (.bool true) ∧ Below w.heap.size w w' := by
  obtain ⟨N, hN⟩ : ∃ N : Nat, N = m % 20 := ⟨_, rfl⟩
  have hN1 : N < 20 := by omega
  have hmn : (m : Int) % 20 = (N : Int) := by omega
  have HE := Lib.hid he
  clear hN he
  go_enter Tryz.func5, Tryz.ntmps5
  go_wp2_with fail
  go_loopw [6, 17] (fun v6 v17 wr => ∃ i : Nat, v17 = .int .i64 i ∧ i ≤ N ∧ wr = w ∧ ∃ a : Bs, v6 = St a ∧ Hid (a = sp i)) (fun _ v17 _ => N - (intOf v17).toNat)
  case atStart => exact ⟨0, rfl, by omega, rfl, [], rfl, rfl⟩
  case round =>
    obtain ⟨i, rfl, hi, rfl, a, rfl, HA⟩ := hrel
    by_cases hlt : i < N
    · have hi' : (i : Int) < (N : Int) := by omega
      have hal : a.length = i := by rw [HA.out, List.length_replicate]
      have h1 : ¬ (9223372036854775807 : Nat) < a.length + 1 := by omega
      have hwi : IntKind.i64.wrap ((i : Int) + 1) = (i : Int) + 1 := wrapK_le (by omega) (by omega)
      have hwi2 : wrap64 ((i : Int) + 1) = (i : Int) + 1 := wrap6_le (by omega) (by omega)
      clear hal
      go_wp2_with fail
      exact ⟨⟨i + 1, rfl, hlt, (by first | trivial | rfl), a ++ [32], cat_bs _ _ _ rfl, by rw [HA.out]; exact sp_add i⟩, round_less hlt⟩
    · obtain rfl : i = N := by omega
      obtain ⟨w0, hw0⟩ : ∃ w0, w0 = wr := ⟨_, rfl⟩
      subst hw0
      have hi' : ¬ ((i : Int) < (i : Int)) := by omega
      by_cases hbig : 8000 < s.length
      · have hbig' : (s.length : Int) > 8000 := by omega
        have hAl := law_alive w0.heap.size _ HE.out
        go_wp2_with fail
        refine hAl.mono ?_
        rintro e w1 ⟨rfl, hb1⟩
        go_wp2_with fail
        go_ret
        exact ⟨rfl, hb1⟩
      · have hbig' : ¬ ((s.length : Int) > 8000) := by omega
        have hal : a = sp i := HA.out
        have hla : a.length = i := by rw [hal, List.length_replicate]
        have h1 : ¬ (9223372036854775807 : Nat) < a.length + s.length := by omega
        have h2 : ¬ (9223372036854775807 : Nat) < s.length + a.length := by omega
        have hcat1 : (⟨a.toArray⟩ : ByteArray) ++ ⟨s.toArray⟩ = ⟨(a ++ s).toArray⟩ := bs_append a s
        have hcat2 : (⟨s.toArray⟩ : ByteArray) ++ ⟨a.toArray⟩ = ⟨(s ++ a).toArray⟩ := bs_append s a
        have hl1 : (a ++ s).length ≤ 65536 := by rw [List.length_append]; omega
        have hl2 : (s ++ a).length ≤ 65536 := by rw [List.length_append]; omega
        obtain ⟨t1, y1, a1, hm1⟩ := whole_total (9000 + 1) s (by omega)
        obtain ⟨t2, y2, a2, hm2⟩ := whole_total (9000 + 1) (a ++ s) (by rw [List.length_append]; omega)
        obtain ⟨t3, y3, a3, hm3⟩ := whole_total (9000 + 1) (s ++ a) (by rw [List.length_append]; omega)
        have hlaw : (y1 = 0 ∧ a1 = 0 ∧ t2 = t1 ∧ y2 = 0 ∧ a2 = 0 ∧ t3 = t1 ∧ y3 = 0 ∧ a3 = 0) ∨ (y1 ≠ 0 ∧ y2 = y1 ∧ a2 = a1 + i ∧ 0 ≤ a1 ∧ a1 ≤ 8032) := by
          rcases whole_ahead i 9000 s (by omega) hN1 t1 y1 a1 hm1 with ⟨rfl, rfl, hx⟩ | ⟨hy, rfl, hx⟩
          · left
            have hz := whole_behind i 9000 s (by omega) hN1 t1 hm1
            rw [← hal] at hx hz
            rw [hm2] at hx
            rw [hm3] at hz
            simp only [Option.some.injEq, Prod.mk.injEq] at hx hz
            exact ⟨rfl, rfl, hx.1, hx.2.1, hx.2.2, hz.1, hz.2.1, hz.2.2⟩
          · right
            have hb := whole_at _ _ _ _ _ hm1
            rw [← hal] at hx
            rw [hm2] at hx
            simp only [Option.some.injEq, Prod.mk.injEq] at hx
            exact ⟨hy, hx.2.1, hx.2.2, hb.1, by omega⟩
        have hfit := whole_fit (9000 + 1) (by decide) s t1 y1 a1 hm1
        have hW1 := fun w' he' => flow_Whole 9000 (by decide) s (by omega) t1 y1 a1 hm1 w0.heap.size w' he'
        have hW2 := fun w' he' => flow_Whole 9000 (by decide) (a ++ s) hl1 t2 y2 a2 hm2 w0.heap.size w' he'
        have hW3 := fun w' he' => flow_Whole 9000 (by decide) (s ++ a) hl2 t3 y3 a3 hm3 w0.heap.size w' he'
        obtain ⟨k1, x1, n1, ks1⟩ := t1
        obtain ⟨k2, x2, n2, ks2⟩ := t2
        obtain ⟨k3, x3, n3, ks3⟩ := t3
        have HL := Lib.hid (And.intro hlaw (And.intro hfit hN1))
        clear hal hla hm1 hm2 hm3 hlaw hfit hl1 hl2 HA
        go_wp2_with fail
        refine (hW1 _ HE.out).mono ?_
        rintro e w1 ⟨⟨v, hq1, rfl⟩, hb1⟩
        obtain ⟨A1, c1, rfl, hr1⟩ := hq1.shape
        obtain ⟨X1, hX1⟩ : ∃ X, w1.heap.size = X := ⟨_, rfl⟩
        obtain ⟨p1, q1, bl1, sz1⟩ := laid2_facts w1 k1 x1 n1 A1 ks1.length c1 y1 a1 X1 hX1
        have bz1 : Below w0.heap.size w0 (laid2 w1 k1 x1 n1 A1 ks1.length c1 y1 a1) := hb1.trans (bl1.mono (by rw [← hX1]; exact hb1.size))
        have be1 := HE.out.own bz1
        have rr1 := hr1.under (by rw [hX1]; exact bl1)
        have hC2 := hW2 _ be1
        have H1 := Lib.hid (And.intro p1 (And.intro q1 (And.intro rr1 (And.intro bz1 sz1))))
        clear hq1 hr1 hb1 p1 q1 bl1 sz1 be1 rr1 bz1 hW1 hW2
        go_wp2_with fail
        refine hC2.mono ?_
        rintro e w2 ⟨⟨v, hq2, rfl⟩, hb2⟩
        obtain ⟨A2, c2, rfl, hr2⟩ := hq2.shape
        obtain ⟨X2, hX2⟩ : ∃ X, w2.heap.size = X := ⟨_, rfl⟩
        obtain ⟨p2, q2, bl2, sz2⟩ := laid2_facts w2 k2 x2 n2 A2 ks2.length c2 y2 a2 X2 hX2
        have bw2 : Below (laid2 w1 k1 x1 n1 A1 ks1.length c1 y1 a1).heap.size (laid2 w1 k1 x1 n1 A1 ks1.length c1 y1 a1) (laid2 w2 k2 x2 n2 A2 ks2.length c2 y2 a2) := hb2.trans (bl2.mono (by rw [← hX2]; exact hb2.size))
        have bz2 : Below w0.heap.size w0 (laid2 w2 k2 x2 n2 A2 ks2.length c2 y2 a2) := H1.out.2.2.2.1.trans (bw2.mono H1.out.2.2.2.1.size)
        have be2 := HE.out.own bz2
        have rr2 := hr2.under (by rw [hX2]; exact bl2)
        have rr1 := H1.out.2.2.1.under bw2
        have p1 := blk_below H1.out.1 bw2 (blk_lt H1.out.1)
        have q1 := blk_below H1.out.2.1 bw2 (blk_lt H1.out.2.1)
        have hC3 := hW3 _ be2
        have H2 := Lib.hid (And.intro p1 (And.intro q1 (And.intro rr1 (And.intro p2 (And.intro q2 (And.intro rr2 bz2))))))
        clear hq2 hr2 hb2 p1 q1 rr1 p2 q2 rr2 bl2 sz2 be2 bz2 bw2 hW3 hC2
        go_wp2_with fail
        refine hC3.mono ?_
        rintro e w3 ⟨⟨v, hq3, rfl⟩, hb3⟩
        obtain ⟨A3, c3, rfl, hr3⟩ := hq3.shape
        obtain ⟨X3, hX3⟩ : ∃ X, w3.heap.size = X := ⟨_, rfl⟩
        obtain ⟨p3, q3, bl3, sz3⟩ := laid2_facts w3 k3 x3 n3 A3 ks3.length c3 y3 a3 X3 hX3
        have bw3 : Below (laid2 w2 k2 x2 n2 A2 ks2.length c2 y2 a2).heap.size (laid2 w2 k2 x2 n2 A2 ks2.length c2 y2 a2) (laid2 w3 k3 x3 n3 A3 ks3.length c3 y3 a3) := hb3.trans (bl3.mono (by rw [← hX3]; exact hb3.size))
        have bz3 : Below w0.heap.size w0 (laid2 w3 k3 x3 n3 A3 ks3.length c3 y3 a3) := H2.out.2.2.2.2.2.2.trans (bw3.mono H2.out.2.2.2.2.2.2.size)
        have be3 := HE.out.own bz3
        have rr3 := hr3.under (by rw [hX3]; exact bl3)
        have rr2 := H2.out.2.2.2.2.2.1.under bw3
        have rr1 := H2.out.2.2.1.under bw3
        have p1 := blk_below H2.out.1 bw3 (blk_lt H2.out.1)
        have q1 := blk_below H2.out.2.1 bw3 (blk_lt H2.out.2.1)
        have p2 := blk_below H2.out.2.2.2.1 bw3 (blk_lt H2.out.2.2.2.1)
        have q2 := blk_below H2.out.2.2.2.2.1 bw3 (blk_lt H2.out.2.2.2.2.1)
        rcases HL.out.1 with ⟨rfl, rfl, e2, rfl, rfl, e3, rfl, rfl⟩ | ⟨hy, rfl, rfl, ha0, ha1⟩
        · cases e2
          cases e3
          obtain ⟨u0, u1, u2, u3, _, _, _, _⟩ := cells4 p1
          obtain ⟨v0, v1, _, _⟩ := cells2 q1
          obtain ⟨s0, s1, s2, s3, _, _, _, _⟩ := cells4 p2
          obtain ⟨g0, g1, _, _⟩ := cells2 q2
          obtain ⟨m0, m1, m2, m3, _, _, _, _⟩ := cells4 p3
          obtain ⟨o0, o1, _, _⟩ := cells2 q3
          have HZ := Lib.hid (And.intro p1 (And.intro q1 (And.intro rr1 (And.intro p2 (And.intro q2 (And.intro rr2 (And.intro p3 (And.intro q3 (And.intro rr3 (And.intro bz3 be3))))))))))
          clear hq3 hr3 hb3 p1 q1 rr1 p2 q2 rr2 p3 q3 rr3 bl3 sz3 be3 bz3 bw3 hC3
          go_wp2_with fail
          refine (same_spec _ k1 x1 n1 ks1 A1 A2 _ _ c1 c2 (Nat.lt_succ_self _) HL.out.2.1 _ _ _ HZ.out.2.2.1.see HZ.out.2.2.2.2.2.1.see).mono ?_
          rintro e w4 ⟨rfl, hb4⟩
          have p1 := blk_below HZ.out.1 hb4 (blk_lt HZ.out.1)
          have q1 := blk_below HZ.out.2.1 hb4 (blk_lt HZ.out.2.1)
          have p3 := blk_below HZ.out.2.2.2.2.2.2.1 hb4 (blk_lt HZ.out.2.2.2.2.2.2.1)
          have q3 := blk_below HZ.out.2.2.2.2.2.2.2.1 hb4 (blk_lt HZ.out.2.2.2.2.2.2.2.1)
          have rr1 := HZ.out.2.2.1.under hb4
          have rr3 := HZ.out.2.2.2.2.2.2.2.2.1.under hb4
          have bz4 : Below w0.heap.size w0 w4 := HZ.out.2.2.2.2.2.2.2.2.2.1.trans (hb4.mono HZ.out.2.2.2.2.2.2.2.2.2.1.size)
          have be4 := HE.out.own bz4
          clear u0 u1 u2 u3 v0 v1 s0 s1 s2 s3 g0 g1 m0 m1 m2 m3 o0 o1 HZ hb4
          obtain ⟨u0, u1, u2, u3, _, _, _, _⟩ := cells4 p1
          obtain ⟨v0, v1, _, _⟩ := cells2 q1
          obtain ⟨m0, m1, m2, m3, _, _, _, _⟩ := cells4 p3
          obtain ⟨o0, o1, _, _⟩ := cells2 q3
          have HY := Lib.hid (And.intro rr1 (And.intro rr3 (And.intro bz4 be4)))
          clear p1 q1 p3 q3 rr1 rr3 bz4 be4
          go_wp2_with fail
          refine (same_spec _ k1 x1 n1 ks1 A1 A3 _ _ c1 c3 (Nat.lt_succ_self _) HL.out.2.1 _ _ _ HY.out.1.see HY.out.2.1.see).mono ?_
          rintro e w5 ⟨rfl, hb5⟩
          have bz5 : Below w0.heap.size w0 w5 := HY.out.2.2.1.trans (hb5.mono HY.out.2.2.1.size)
          have hAl := law_alive w0.heap.size _ (HE.out.own bz5)
          have HB5 := Lib.hid bz5
          clear hb5 bz5
          go_wp2_with fail
          refine hAl.mono ?_
          rintro e w6 ⟨rfl, hb6⟩
          go_wp2_with fail
          go_ret
          exact ⟨rfl, HB5.out.trans (hb6.mono HB5.out.size)⟩
        · have hy' : (y2 == 0) = false := by simpa using hy
          obtain ⟨v0, v1, _, _⟩ := cells2 q1
          obtain ⟨g0, g1, _, _⟩ := cells2 q2
          have HZ := Lib.hid (And.intro bz3 be3)
          have hi20 := HL.out.2.2
          have hwa : IntKind.i64.wrap (a1 + (i : Int)) = a1 + (i : Int) := wrapK_le (by omega) (by omega)
          have hwa2 : wrap64 (a1 + (i : Int)) = a1 + (i : Int) := wrap6_le (by omega) (by omega)
          clear hq3 hr3 hb3 p1 q1 rr1 p2 q2 rr2 p3 q3 rr3 bl3 sz3 be3 bz3 bw3 hC3 hy
          have hAl := law_alive w0.heap.size _ (HE.out.own HZ.out.1)
          go_wp2_with fail
          refine hAl.mono ?_
          rintro e w6 ⟨rfl, hb6⟩
          go_wp2_with fail
          go_ret
          exact ⟨rfl, HZ.out.1.trans (hb6.mono HZ.out.1.size)⟩
end Go.Proofs.YtbmonfcahhhdeaaGreatDoor
