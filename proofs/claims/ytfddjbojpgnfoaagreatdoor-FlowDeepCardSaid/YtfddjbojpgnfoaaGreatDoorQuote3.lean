/- The walks of package quote: put, Double. -/
import Derived.Test.YtfddjbojpgnfoaaGreatDoorQuote2
set_option linter.unusedVariables false
set_option linter.unusedSimpArgs false
namespace Go.Proofs.YtfddjbojpgnfoaaGreatDoor
open Go.RowKit

set_option maxHeartbeats 4000000 in
set_option maxRecDepth 100000 in
theorem quote_put (n : Nat) (h1 : n ≤ 1114111) (G B b : Nat) (l : Bs) (w : World) (he : Env G w) (h : Bld 107 B b l w) (hG : G ≤ B) (hlen : l.length + 20 ≤ 140737488355328) (hBw : B ≤ w.heap.size) :
    Calls Tryz.prog 66 #[.pointer (some ⟨b, 0, none⟩), .int .i64 n] w fun e w' => e = .returned (.tuple #[]) ∧ Bld 107 B b (l ++ qputBs n) w' ∧ BFr B b w w' := by
  have hS := quote_short n
  have hM := quote_may n
  have HB := Lib.hid h
  clear h
  by_cases hs : qshort n = 0
  · have hsB : (qshort n != 0) = false := by simp [hs]
    rw [hs] at hS
    by_cases hm : qmay n = true
    · have hR : Hid (qputBs n = runeBs n) := by show qputBs n = _; unfold qputBs; rw [if_neg (by simp [hs]), if_pos hm]
      have hW := fun w' h hw => bld_WriteRune bt_quote B b l n (by omega) (by omega) w' h (by omega) hw
      rw [hm] at hM
      rw [hR.out]
      generalize runeBs n = X at hW ⊢
      clear hs hm hR
      go_enter Tryz.func66, Tryz.ntmps66
      go_wp2_with fail
      refine (hS _).mono ?_
      rintro e w1 ⟨rfl, rfl⟩
      go_wp2_with fail
      refine (hM _).mono ?_
      rintro e w1 ⟨rfl, rfl⟩
      go_wp2_with fail
      refine (hW _ HB.out hBw).mono ?_
      rintro e w2 ⟨rfl, hd2, hf2⟩
      go_wp2_with fail
      go_end0
      exact ⟨rfl, hd2, hf2⟩
    · have hmf : qmay n = false := by simpa using hm
      rw [hmf] at hM
      by_cases h2 : n < 256
      · have hR : Hid (qputBs n = qhexBs 120 n 2) := by show qputBs n = _; unfold qputBs; rw [if_neg (by simp [hs]), if_neg hm, if_pos h2]
        have hH := fun w' he h hw => quote_hex 120 n 2 h1 (hexL_len 1 n (by omega)) (by omega) G B b l w' he h hG hlen hw
        have i1 : (n : Int) < 256 := by omega
        rw [hR.out]
        generalize qhexBs 120 n 2 = X at hH ⊢
        clear hs hm hR h2 hmf
        go_enter Tryz.func66, Tryz.ntmps66
        go_wp2_with fail
        refine (hS _).mono ?_
        rintro e w1 ⟨rfl, rfl⟩
        go_wp2_with fail
        refine (hM _).mono ?_
        rintro e w1 ⟨rfl, rfl⟩
        go_wp2_with fail
        refine (hH _ he HB.out hBw).mono ?_
        rintro e w2 ⟨rfl, hd2, hf2⟩
        go_wp2_with fail
        go_end0
        exact ⟨rfl, hd2, hf2⟩
      · by_cases h3 : n < 65536
        · have hR : Hid (qputBs n = qhexBs 117 n 4) := by show qputBs n = _; unfold qputBs; rw [if_neg (by simp [hs]), if_neg hm, if_neg h2, if_pos h3]
          have hH := fun w' he h hw => quote_hex 117 n 4 h1 (hexL_len 3 n (by omega)) (by omega) G B b l w' he h hG hlen hw
          have i1 : ¬ ((n : Int) < 256) := by omega
          have i2 : (n : Int) < 65536 := by omega
          rw [hR.out]
          generalize qhexBs 117 n 4 = X at hH ⊢
          clear hs hm hR h2 hmf h3 h1
          generalize (n : Int) = m at hS hM hH i1 i2 ⊢
          go_enter Tryz.func66, Tryz.ntmps66
          go_wp2_with fail
          refine (hS _).mono ?_
          rintro e w1 ⟨rfl, rfl⟩
          go_wp2_with fail
          refine (hM _).mono ?_
          rintro e w1 ⟨rfl, rfl⟩
          go_wp2_with fail
          refine (hH _ he HB.out hBw).mono ?_
          rintro e w2 ⟨rfl, hd2, hf2⟩
          go_wp2_with fail
          go_end0
          exact ⟨rfl, hd2, hf2⟩
        · have hR : Hid (qputBs n = qhexBs 85 n 8) := by show qputBs n = _; unfold qputBs; rw [if_neg (by simp [hs]), if_neg hm, if_neg h2, if_neg h3]
          have hH := fun w' he h hw => quote_hex 85 n 8 h1 (Nat.le_trans (hexL_len 5 n (by omega)) (by omega)) (by omega) G B b l w' he h hG hlen hw
          have i1 : ¬ ((n : Int) < 256) := by omega
          have i2 : ¬ ((n : Int) < 65536) := by omega
          rw [hR.out]
          generalize qhexBs 85 n 8 = X at hH ⊢
          clear hs hm hR h2 hmf h3 h1
          generalize (n : Int) = m at hS hM hH i1 i2 ⊢
          go_enter Tryz.func66, Tryz.ntmps66
          go_wp2_with fail
          refine (hS _).mono ?_
          rintro e w1 ⟨rfl, rfl⟩
          go_wp2_with fail
          refine (hM _).mono ?_
          rintro e w1 ⟨rfl, rfl⟩
          go_wp2_with fail
          refine (hH _ he HB.out hBw).mono ?_
          rintro e w2 ⟨rfl, hd2, hf2⟩
          go_wp2_with fail
          go_end0
          exact ⟨rfl, hd2, hf2⟩
  · have hR : Hid (l ++ [92] ++ [qshort n] = l ++ qputBs n) := by show _ = l ++ qputBs n; unfold qputBs; rw [if_pos hs]; simp
    have hB1 := fun w' h hw => bld_WriteByte bt_quote B b l 92 w' h (by omega) hw
    have hB2 := fun w' h hw => bld_WriteByte bt_quote B b (l ++ [92]) (qshort n) w' h (by simp; omega) hw
    rw [hR.out] at hB2
    generalize qputBs n = Q at hB2 hR ⊢
    generalize qshort n = c at hS hs hB2 hR
    have hcB : ((c.toNat : Int) != 0) = true := by
      have : c.toNat ≠ 0 := fun h => hs (UInt8.toNat.inj h)
      simp; omega
    clear hs hR
    go_enter Tryz.func66, Tryz.ntmps66
    go_wp2_with fail
    refine (hS _).mono ?_
    rintro e w1 ⟨rfl, rfl⟩
    go_wp2_with fail
    refine (hB1 _ HB.out hBw).mono ?_
    rintro e w2 ⟨rfl, hd2, hf2⟩
    go_wp2_with fail
    refine (hB2 _ hd2 (Nat.le_trans hBw hf2.below.size)).mono ?_
    rintro e w3 ⟨rfl, hd3, hf3⟩
    go_wp2_with fail
    go_end0
    exact ⟨rfl, hd3, hf2.trans hf3⟩
end Go.Proofs.YtfddjbojpgnfoaaGreatDoor
