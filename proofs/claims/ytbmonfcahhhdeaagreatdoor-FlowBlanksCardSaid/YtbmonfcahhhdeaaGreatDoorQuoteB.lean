/- The walk of quote.Read, second part. The walk of quote.Read, whole; quote.Simple is not reached. -/
import Derived.Test.YtbmonfcahhhdeaaGreatDoorQuote9
set_option linter.unusedVariables false
set_option linter.unusedSimpArgs false
namespace Go.Proofs.YtbmonfcahhhdeaaGreatDoor
open Go.RowKit

set_option maxHeartbeats 8000000 in
set_option maxRecDepth 100000 in
theorem quote_Read_q (q : UInt8) (t : Bs) (hq : q = 39 ∨ q = 34) (hl : t.length < 4294967295) (G : Nat) (w : World) (he : Env G w) :
    Calls Tryz.prog 100 #[St (q :: t)] w fun e w' => e = .returned (.tuple #[St (qread (q :: t)).1, .int .i64 (qread (q :: t)).2.1, Ft (qread (q :: t)).2.2.1 (qread (q :: t)).2.2.2]) ∧ Below w.heap.size w w' := by
  have hg : ∀ h, (⟨(q :: t).toArray⟩ : ByteArray)[0]'h = q := fun h => bs_get (q :: t) 0 (by simp) h
  have hR0 : qreadL q (t.length + 1) t.length 1 t [] = qread (q :: t) := by simp only [qread]; rw [if_pos hq]
  generalize qread (q :: t) = R at hR0 ⊢
  obtain ⟨R1, R2, R3, R4⟩ := R
  have HQ := Lib.hid (And.intro hq (And.intro hl (And.intro he hR0)))
  clear hl he hR0
  obtain ⟨F, hF⟩ : ∃ F, w.heap.size = F := ⟨_, rfl⟩
  have hqB : ((q.toNat : Int) != 39) = false ∨ ((q.toNat : Int) != 39) = true ∧ ((q.toNat : Int) != 34) = false := by rcases hq with rfl | rfl <;> decide
  clear hq
  rcases hqB with hq1 | ⟨hq1, hq2⟩
  all_goals
    go_enter Tryz.func100, Tryz.ntmps100
    go_wp2_with fail
    go_loopw [6] (fun v wr => ∃ (k f : Nat) (rest acc : Bs), v = .int .i64 k ∧ 1 ≤ k ∧ k + rest.length = t.length + 1 ∧ Hid ((q :: t).drop k = rest ∧ qreadL q (t.length + 1) f k rest acc = (R1, R2, R3, R4) ∧ rest.length ≤ f ∧ acc.length ≤ 4 * k ∧ Bld 50 (F + 1) (F + 1) acc wr ∧ wr.heap[F]? = some (.cells #[.int .i64 0, .int .i64 0] 31) ∧ Below F w wr ∧ F + 1 < wr.heap.size)) (fun v _ => t.length + 1 - (intOf v).toNat)
    case atStart => exact ⟨1, t.length, t, [], rfl, by omega, by omega, rfl, HQ.out.2.2.2, Nat.le_refl _, by simp, by subst hF; exact Bld.fresh (Nat.le_refl _) (blk_new1 _ _ _), by subst hF; exact blk_alloc (blk_new _ _), by subst hF; exact ((Below.refl _ _).alloc (Nat.le_refl _) _).alloc (by simp) _, by subst hF; simp⟩
    case round =>
      obtain ⟨k, f, rest, acc, rfl, hk1, hkr, HX⟩ := hrel
      obtain ⟨c0, c1, f0, f1⟩ := cells2 HX.out.2.2.2.2.2.1
      by_cases hlt : k < t.length + 1
      · have hlt' : (k : Int) < (t.length : Int) + 1 := by omega
        obtain ⟨rb, rt, hrest⟩ := List.exists_cons_of_ne_nil (l := rest) (by intro h; subst h; simp at hkr; omega)
        have hsl : ∀ w', (Instr.slice 9 (St (q :: t)) (some (.int .i64 k)) none none).run Tryz.prog w' = .ok (St rest) w' := fun w' => by
          rw [run_slice_string_l w' 9 _ Tryz.underlying9 .i64 _ (by omega) (by show (k : Int) ≤ ((q :: t).length : Int); simp; omega)]
          show Result.ok (Value.string (ByteArray.extract ⟨(q :: t).toArray⟩ (k : Int).toNat (q :: t).length)) w' = _
          rw [extract_end, Int.toNat_natCast, HX.out.1]
        have hEd : Env G wr.drew := ((HQ.out.2.2.1).below HX.out.2.2.2.2.2.2.1 (by rw [← hF]; exact HQ.out.2.2.1.le)).drewN 1
        have hO := fun w' he => quote_one rb q rt HQ.out.1 (by have := HQ.out.2.1; rw [hrest] at hkr; simp at hkr; omega) G w' he
        rw [← hrest] at hO
        have hbd := qone_bounds q rest
        have hst : qreadL q (t.length + 1) f k rest acc = _ := HX.out.2.1
        obtain ⟨f', rfl⟩ : ∃ f', f = f' + 1 := ⟨f - 1, by have := HX.out.2.2.1; rw [hrest] at this; simp at this; omega⟩
        unfold qreadL at hst
        rw [if_neg (by rw [hrest]; simp)] at hst
        have HST := Lib.hid hst
        have HRS := Lib.hid hrest
        generalize hoo : qone q rest = o at hO hbd
        have HOO := Lib.hid hoo
        obtain ⟨o1, o2, o3⟩ := o
        clear hst hrest hoo
        have HBD := Lib.hid hbd
        clear hbd
        go_wp2_with fail
        go_region_with (first | (go_at_call 135; refine (hO _ hEd).mono ?_; rintro e w5 ⟨rfl, hb5⟩))
        have hbk5 : w5.heap[F]? = some (.cells #[.int .i64 0, .int .i64 0] 31) := blk_below (show wr.drew.heap[F]? = _ from HX.out.2.2.2.2.2.1) hb5 (by have := HX.out.2.2.2.2.2.2.2; show F < wr.heap.size; omega)
        obtain ⟨d0, d1, g0, g1⟩ := cells2 hbk5
        have HW := Lib.hid (And.intro hb5 hbk5)
        clear hb5 hbk5 c0 c1 f0 f1
        by_cases h4 : o3 = 4
        · subst h4
          have hs := HST.out
          rw [HOO.out] at hs
          simp only [if_true] at hs
          cases hs
          go_wp2_with fail
          obtain ⟨hb5, hbk5⟩ := HW.out
          have hd := blk_set (i := 1) (v := .int .i64 ((t.length : Int) + 1)) (blk_set (i := 0) (v := .int .i64 4) hbk5)
          have e0 := blk_cell hd 0
          have e1 := blk_cell hd 1
          exact bodyPost_ret (v := .tuple #[St [], .int .i64 0, Ft 4 ((t.length : Int) + 1)]) (by simp [results, Tryz.results100, go_sem, e0, e1]) rfl
            ⟨by simp, by (try rw [hF]); exact ((HX.out.2.2.2.2.2.2.1.trans ((Below.drew (Below.refl _ wr)).trans (hb5.mono (by have := HX.out.2.2.2.2.2.2.2; show F ≤ wr.heap.size; omega)))).setCell (Nat.le_refl _) _).setCell (Nat.le_refl _) _⟩
        by_cases h0 : o3 = 0
        · subst h0
          have hs := HST.out
          rw [HOO.out] at hs
          rw [if_neg (by simp), if_neg (by simp)] at hs
          by_cases hz : o2 = 0
          · subst hz
            simp only [if_true] at hs
            cases hs
            have hS := fun w' h hw => bld_String bt_builder (F + 1) (F + 1) R1 w' h hw
            have hw1 : wrap64 ((k : Int) + 1) = (k : Int) + 1 := by have := HQ.out.2.1; unfold wrap64; omega
            go_wp2_with fail
            refine (hS _ ((HX.out.2.2.2.2.1.own (Below.drew (Below.refl _ wr))).own HW.out.1) (by have := HX.out.2.2.2.2.2.2.2; have := HW.out.1.size; have e : wr.drew.heap.size = wr.heap.size := rfl; omega)).mono ?_
            rintro e w6 ⟨rfl, hd6, hf6⟩
            have hbk6 := blk_below HW.out.2 hf6.below (by omega)
            obtain ⟨b0, b1, j0, j1⟩ := cells2 hbk6
            clear d0 d1 g0 g1
            have HV := Lib.hid (And.intro hbk6 (And.intro hd6 hf6))
            clear hbk6 hd6 hf6
            go_wp2_with fail
            obtain ⟨hbk6, hd6, hf6⟩ := HV.out
            have hb5 := HW.out.1
            have hd := blk_set (i := 1) (v := .int .i64 0) (blk_set (i := 0) (v := .int .i64 0) hbk6)
            have e0 := blk_cell hd 0
            have e1 := blk_cell hd 1
            exact bodyPost_ret (v := .tuple #[St R1, .int .i64 ((k : Int) + 1), Ft 0 0]) (by simp [results, Tryz.results100, go_sem, e0, e1, hw1]) rfl
              ⟨by simp, by (try rw [hF]); exact (((HX.out.2.2.2.2.2.2.1.trans ((Below.drew (Below.refl _ wr)).trans (hb5.mono (by have := HX.out.2.2.2.2.2.2.2; show F ≤ wr.heap.size; omega)))).trans (hf6.below.mono (by omega))).setCell (Nat.le_refl _) _).setCell (Nat.le_refl _) _⟩
          · rw [if_neg hz] at hs
            have hzB : (o2 == 0) = false := by simpa using hz
            have hbd := HBD.out rfl
            have hW := fun w' h hw hlen => bld_WriteString bt_builder (F + 1) (F + 1) acc o1 w' h hlen hw
            have hwk : wrap64 ((k : Int) + o2) = (k : Int) + o2 := by have := HQ.out.2.1; have := hbd.1; have := hbd.2.1; unfold wrap64; omega
            go_wp2_with fail
            refine (hW _ ((HX.out.2.2.2.2.1.own (Below.drew (Below.refl _ wr))).own HW.out.1) (by have := HX.out.2.2.2.2.2.2.2; have := HW.out.1.size; have e : wr.drew.heap.size = wr.heap.size := rfl; omega) (by have := HX.out.2.2.2.1; have := HQ.out.2.1; omega)).mono ?_
            rintro e w6 ⟨rfl, hd6, hf6⟩
            have hbk6 := blk_below HW.out.2 hf6.below (by omega)
            have hb5 := HW.out.1
            have HY : Hid ((q :: t).drop (k + o2.toNat) = rest.drop o2.toNat ∧ qreadL q (t.length + 1) f' (k + o2.toNat) (rest.drop o2.toNat) (acc ++ o1) = (R1, R2, R3, R4) ∧ (rest.drop o2.toNat).length ≤ f' ∧ (acc ++ o1).length ≤ 4 * (k + o2.toNat) ∧ Bld 50 (F + 1) (F + 1) (acc ++ o1) w6 ∧ w6.heap[F]? = some (.cells #[.int .i64 0, .int .i64 0] 31) ∧ Below F w w6 ∧ F + 1 < w6.heap.size) := by
              have e : wr.drew.heap.size = wr.heap.size := rfl
              refine ⟨by rw [← List.drop_drop, HX.out.1], hs, by rw [List.length_drop]; have := HX.out.2.2.1; omega, by rw [List.length_append]; have := HX.out.2.2.2.1; omega, hd6, hbk6, ?_, by have := hf6.below.size; have := hb5.size; have := HX.out.2.2.2.2.2.2.2; omega⟩
              exact (HX.out.2.2.2.2.2.2.1.trans ((Below.drew (Below.refl _ wr)).trans (hb5.mono (by have := HX.out.2.2.2.2.2.2.2; omega)))).trans (hf6.below.mono (by omega))
            clear d0 d1 g0 g1 hbk6 hd6 hf6 hs
            go_wp2_with fail
            rw [hwk]
            have hbd1 := hbd.1
            have hbd2 := hbd.2.1
            exact ⟨⟨k + o2.toNat, f', rest.drop o2.toNat, acc ++ o1, int_of (by omega), by omega, by rw [List.length_drop]; omega, HY⟩, by show t.length + 1 - ((k : Int) + o2).toNat < t.length + 1 - ((k : Int)).toNat; omega⟩
        · have h4B : (o3 == 4) = false := by simpa using h4
          have h0B : (o3 != 0) = true := by simpa using h0
          have hs := HST.out
          rw [HOO.out] at hs
          rw [if_neg (by simpa using h4), if_pos (by simpa using h0)] at hs
          cases hs
          go_wp2_with fail
          obtain ⟨hb5, hbk5⟩ := HW.out
          have hd := blk_set (i := 1) (v := .int .i64 k) (blk_set (i := 0) (v := .int .i64 o3) hbk5)
          have e0 := blk_cell hd 0
          have e1 := blk_cell hd 1
          exact bodyPost_ret (v := .tuple #[St [], .int .i64 0, Ft o3 k]) (by simp [results, Tryz.results100, go_sem, e0, e1]) rfl
            ⟨by simp, by (try rw [hF]); exact ((HX.out.2.2.2.2.2.2.1.trans ((Below.drew (Below.refl _ wr)).trans (hb5.mono (by have := HX.out.2.2.2.2.2.2.2; show F ≤ wr.heap.size; omega)))).setCell (Nat.le_refl _) _).setCell (Nat.le_refl _) _⟩
      · obtain rfl : rest = [] := List.eq_nil_of_length_eq_zero (by omega)
        have hs := HX.out.2.1
        have hs2 : qreadL q (t.length + 1) f k [] acc = ([], 0, 4, ((t.length + 1 : Nat) : Int)) := by cases f <;> rfl
        rw [hs2] at hs
        cases hs
        have hge : ¬ ((k : Int) < (t.length : Int) + 1) := by omega
        go_wp2_with fail
        have hd := blk_set (i := 1) (v := .int .i64 ((t.length : Int) + 1)) (blk_set (i := 0) (v := .int .i64 4) HX.out.2.2.2.2.2.1)
        have e0 := blk_cell hd 0
        have e1 := blk_cell hd 1
        exact bodyPost_ret (v := .tuple #[St [], .int .i64 0, Ft 4 ((t.length : Int) + 1)]) (by simp [results, Tryz.results100, go_sem, e0, e1]) rfl
          ⟨by simp, by (try rw [hF]); exact (HX.out.2.2.2.2.2.2.1.setCell (Nat.le_refl _) _).setCell (Nat.le_refl _) _⟩
end Go.Proofs.YtbmonfcahhhdeaaGreatDoor

namespace Go.Proofs.YtbmonfcahhhdeaaGreatDoor
open Go.RowKit

set_option maxHeartbeats 8000000 in
set_option maxRecDepth 100000 in
theorem quote_Read (l : Bs) (hl : l.length < 4294967296) (G : Nat) (w : World) (he : Env G w) :
    Calls Tryz.prog 100 #[St l] w fun e w' => e = .returned (.tuple #[St (qread l).1, .int .i64 (qread l).2.1, Ft (qread l).2.2.1 (qread l).2.2.2]) ∧ Below w.heap.size w w' := by
  rcases l with _ | ⟨q, t⟩
  · clear hl he
    go_enter Tryz.func100, Tryz.ntmps100
    go_wp2_with fail
    have hd := blk_new w (.cells #[.int .i64 3, .int .i64 0] 31)
    have e0 := blk_cell hd 0
    have e1 := blk_cell hd 1
    exact bodyPost_ret (v := .tuple #[St [], .int .i64 0, Ft 3 0]) (by simp [results, Tryz.results100, go_sem, e0, e1]) rfl
      ⟨rfl, (Below.refl _ _).alloc (Nat.le_refl _) _⟩
  · by_cases hq : q = 39 ∨ q = 34
    · exact quote_Read_q q t hq (by simp at hl; omega) G w he
    · have hg : ∀ h, (⟨(q :: t).toArray⟩ : ByteArray)[0]'h = q := fun h => bs_get (q :: t) 0 (by simp) h
      have hR : Hid (qread (q :: t) = ([], 0, 3, 0)) := by show _ = _; simp only [qread]; rw [if_neg hq]
      have h1 : ((q.toNat : Int) != 39) = true := by rw [bne, show ((q.toNat : Int) == 39) = false from ne_u8 (n := 39) (by decide) (fun h => hq (.inl h))]; rfl
      have h2 : ((q.toNat : Int) != 34) = true := by rw [bne, show ((q.toNat : Int) == 34) = false from ne_u8 (n := 34) (by decide) (fun h => hq (.inr h))]; rfl
      rw [hR.out]
      clear hl he hq
      go_enter Tryz.func100, Tryz.ntmps100
      go_wp2_with fail
      have hd := blk_new w (.cells #[.int .i64 3, .int .i64 0] 31)
      have e0 := blk_cell hd 0
      have e1 := blk_cell hd 1
      exact bodyPost_ret (v := .tuple #[St [], .int .i64 0, Ft 3 0]) (by simp [results, Tryz.results100, go_sem, e0, e1]) rfl
        ⟨rfl, (Below.refl _ _).alloc (Nat.le_refl _) _⟩
end Go.Proofs.YtbmonfcahhhdeaaGreatDoor
