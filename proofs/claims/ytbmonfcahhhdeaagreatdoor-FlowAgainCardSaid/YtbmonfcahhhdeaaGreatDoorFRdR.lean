/- value's contract; Read's and Whole's. The walk of flow.Read. The walk of flow.Read, well. The walk of flow.Whole. The walk of flow.Whole, where something stands behind the value. -/
import Derived.Test.YtbmonfcahhhdeaaGreatDoorFRdK
import Derived.Test.YtbmonfcahhhdeaaGreatDoorFRdL
import Derived.Test.YtbmonfcahhhdeaaGreatDoorFRdM
import Derived.Test.YtbmonfcahhhdeaaGreatDoorDeep2
set_option linter.unusedVariables false
set_option linter.unusedSimpArgs false
namespace Go.Proofs.YtbmonfcahhhdeaaGreatDoor
open Go.RowKit

theorem value_spec (g : Nat) (W : Int) (hWs : W < 4294967296) (G : Nat) (hGg : G ≤ g) : ∀ (n : Nat), n ≤ 4294967296 → ∀ (f : Bool) (deep : Int), 0 ≤ deep → deep ≤ 64 → ValSpec f (fun r => FRd.value n r f deep) g W deep G
  | 0, _, f, deep, _, _ => fun r t r1 w hm => by simp [FRd.value] at hm
  | n + 1, hn, f, deep, h0, h1 => by
    intro r t r1 w hm ok hW he h
    simp only [] at hm
    rw [FRd.value] at hm
    rcases hpr : FRd.props f 4 (r.skip 0) Pr.no with _ | ⟨⟨anc, tag, tagAt⟩, rp⟩
    · rw [hpr] at hm; simp at hm
    rw [hpr] at hm
    dsimp only at hm
    cases n42 : rp.next [42] with
    | true =>
      rw [n42, if_pos rfl] at hm
      simp only [Option.some.injEq, Prod.mk.injEq] at hm
      obtain ⟨rfl, rfl⟩ := hm
      exact value_star g r f deep anc tag tagAt rp hpr ok W hW hWs G hGg w he h n42
    | false =>
      rw [n42, if_neg (by decide)] at hm
      cases n91 : rp.next [91] with
      | true =>
        rw [n91, if_pos rfl, FRd.list] at hm
        by_cases hd : deep = 64
        · rw [if_pos hd] at hm
          simp only [Option.some.injEq, Prod.mk.injEq] at hm
          obtain ⟨rfl, rfl⟩ := hm
          exact value_deep_seq g r f deep anc tag tagAt rp hpr ok W hW hWs G hGg w he h n42 n91 hd
        · rw [if_neg hd] at hm
          rcases hpa : FRd.parts (FRd.item fun r => FRd.value n r true (deep + 1)) 93 (n + 1) rp with _ | ⟨l, r2⟩
          · rw [hpa] at hm; simp at hm
          rw [hpa] at hm
          simp only [Option.some.injEq, Prod.mk.injEq] at hm
          obtain ⟨rfl, rfl⟩ := hm
          have hsub : ∀ r t r', FRd.value n r true (deep + 1) = some (t, r') → r.Sub r' := fun r t r' h => FRd.sub_value n r true (deep + 1) t r' h
          exact value_list_seq g r f deep anc tag tagAt rp hpr ok W hW hWs G hGg w he h n42 n91 h0 (by omega) _ (fun r t r' h => FRd.sub_item hsub r t r' h) (n + 1) hn
            (frd_item _ g W (deep + 1) G hGg (value_spec g W hWs G hGg n (by omega) true (deep + 1) (by omega) (by omega))) l r2 hpa
      | false =>
        rw [n91, if_neg (by decide)] at hm
        cases n123 : rp.next [123] with
        | true =>
          rw [n123, if_pos rfl, FRd.list] at hm
          by_cases hd : deep = 64
          · rw [if_pos hd] at hm
            simp only [Option.some.injEq, Prod.mk.injEq] at hm
            obtain ⟨rfl, rfl⟩ := hm
            exact value_deep_map g r f deep anc tag tagAt rp hpr ok W hW hWs G hGg w he h n42 n91 n123 hd
          · rw [if_neg hd] at hm
            rcases hpa : FRd.parts (FRd.entry fun r => FRd.value n r true (deep + 1)) 125 (n + 1) rp with _ | ⟨l, r2⟩
            · rw [hpa] at hm; simp at hm
            rw [hpa] at hm
            simp only [Option.some.injEq, Prod.mk.injEq] at hm
            obtain ⟨rfl, rfl⟩ := hm
            have hsub : ∀ r t r', FRd.value n r true (deep + 1) = some (t, r') → r.Sub r' := fun r t r' h => FRd.sub_value n r true (deep + 1) t r' h
            exact value_list_map g r f deep anc tag tagAt rp hpr ok W hW hWs G hGg w he h n42 n91 n123 h0 (by omega) _ (fun r t r' h => FRd.sub_entry hsub r t r' h) (n + 1) hn
              (frd_entry _ g W (deep + 1) G hGg hWs (value_spec g W hWs G hGg n (by omega) true (deep + 1) (by omega) (by omega))) l r2 hpa
        | false =>
          rw [n123, if_neg (by decide)] at hm
          simp only [Option.some.injEq, Prod.mk.injEq] at hm
          obtain ⟨rfl, rfl⟩ := hm
          exact value_scalar g r f deep anc tag tagAt rp hpr ok W hW hWs G hGg w he h n42 n91 n123
end Go.Proofs.YtbmonfcahhhdeaaGreatDoor

namespace Go.Proofs.YtbmonfcahhhdeaaGreatDoor
open Go.RowKit

set_option maxHeartbeats 8000000 in
set_option maxRecDepth 100000 in
theorem flow_Read_ill (n : Nat) (hn : n ≤ 4294967296) (s : Bs) (hs : s.length < 4294967296) (f : Bool) (t : T) (r : FRd) (hm : FRd.value n (FRd.start s) f 0 = some (t, r)) (hw : r.well = false) (G : Nat) (w : World) (he : Env G w) :
    Calls Tryz.prog 15 #[St s, .bool f] w fun e w' => e = .returned (.tuple #[.agg #[.int .i64 0, St [], St [], .slice none 0 0], .int .i64 0, Ft r.why r.at_]) ∧ Below w.heap.size w w' := by
  obtain ⟨F, hF⟩ : ∃ F, w.heap.size = F := ⟨_, rfl⟩
  have hG := he.le
  have hV := value_spec (F + 2) s.length (by omega) G (by omega) n hn f 0 (by decide) (by decide)
  have ok0 : (FRd.start s).Ok := ⟨Int.le_refl _, by show (s.length : Int) ≤ _; omega⟩
  have hB3 : Below F w (((w.alloc (.cells #[.int .i64 0, St [], St [], .slice none 0 0] 24)).alloc (.cells #[.int .i64 0, .int .i64 0] 31)).alloc (.cells #[.int .i64 s.length, St s, .int .i64 0, .int .i64 0] 60)) := by
    rw [← hF]; exact (((Below.refl _ _).alloc (Nat.le_refl _) _).alloc (by simp) _).alloc (by simp; omega) _
  have hA3 : (FRd.start s).At (((w.alloc (.cells #[.int .i64 0, St [], St [], .slice none 0 0] 24)).alloc (.cells #[.int .i64 0, .int .i64 0] 31)).alloc (.cells #[.int .i64 s.length, St s, .int .i64 0, .int .i64 0] 60)) (F + 2) := by
    have := blk_new ((w.alloc (.cells #[.int .i64 0, St [], St [], .slice none 0 0] 24)).alloc (.cells #[.int .i64 0, .int .i64 0] 31)) (.cells #[.int .i64 s.length, St s, .int .i64 0, .int .i64 0] 60)
    rw [World.size_alloc, World.size_alloc, hF] at this
    exact this
  have hz3 : (((w.alloc (.cells #[.int .i64 0, St [], St [], .slice none 0 0] 24)).alloc (.cells #[.int .i64 0, .int .i64 0] 31)).alloc (.cells #[.int .i64 s.length, St s, .int .i64 0, .int .i64 0] 60)).heap[F]? = some (.cells #[.int .i64 0, St [], St [], .slice none 0 0] 24) := by
    rw [← hF]; exact blk_alloc (blk_alloc (blk_new _ _))
  have hq3 : (((w.alloc (.cells #[.int .i64 0, St [], St [], .slice none 0 0] 24)).alloc (.cells #[.int .i64 0, .int .i64 0] 31)).alloc (.cells #[.int .i64 s.length, St s, .int .i64 0, .int .i64 0] 60)).heap[F + 1]? = some (.cells #[.int .i64 0, .int .i64 0] 31) := by
    rw [← hF]; exact blk_alloc (blk_new1 _ _ _)
  have he3 := he.below hB3 (by omega)
  have hCall := hV (FRd.start s) t r _ hm ok0 rfl he3 hA3
  have hWl := fun w' h' => frd_well (F + 2) r w' h'
  rw [hw] at hWl
  have H3 := Lib.hid (And.intro hB3 (And.intro hz3 hq3))
  obtain ⟨kd, tt, ta, kids⟩ := t
  clear hV he he3 hA3 hz3 hq3 hB3 hm ok0
  go_enter Tryz.func15, Tryz.ntmps15
  go_wp2_with fail
  refine hCall.mono ?_
  rintro e w4 ⟨v, rfl, hr4, h4, f4⟩
  obtain ⟨A, c, rfl, hr4'⟩ := hr4.shape
  have hz4 := blk_fr H3.out.2.1 f4 (blk_lt H3.out.2.1) (by omega)
  have hq4 := blk_fr H3.out.2.2 f4 (blk_lt H3.out.2.2) (by omega)
  have hb4 : Below F w w4 := H3.out.1.trans ((f4.mono (S' := (· = F + 2)) (B' := F) (by simp; omega) (fun _ _ h => h)).toBelow (fun k hk h => by omega))
  have h5 : r.At (w4.alloc (.cells #[.int .i64 kd, St tt, St ta, .slice A kids.length c] 24)) (F + 2) := blk_alloc h4
  have hz5 : (w4.alloc (.cells #[.int .i64 kd, St tt, St ta, .slice A kids.length c] 24)).drew.heap[F]? = some (.cells #[.int .i64 0, St [], St [], .slice none 0 0] 24) := blk_alloc hz4
  have hq5 : (w4.alloc (.cells #[.int .i64 kd, St tt, St ta, .slice A kids.length c] 24)).drew.heap[F + 1]? = some (.cells #[.int .i64 0, .int .i64 0] 31) := blk_alloc hq4
  have h5d : r.At (w4.alloc (.cells #[.int .i64 kd, St tt, St ta, .slice A kids.length c] 24)).drew (F + 2) := h5
  obtain ⟨zz0, zz1, zz2, zz3, yy0, yy1, yy2, yy3⟩ := cells4 (blk_alloc (x := .cells #[.int .i64 kd, St tt, St ta, .slice A kids.length c] 24) hz4)
  obtain ⟨qq0, qq1, qqf0, qqf1⟩ := cells2 (blk_alloc (x := .cells #[.int .i64 kd, St tt, St ta, .slice A kids.length c] 24) hq4)
  obtain ⟨aa0, aa1, aa2, aa3, ii0, ii1, ii2, ii3⟩ := h5.parts
  obtain ⟨z0, z1, z2, z3, y0, y1, y2, y3⟩ := cells4 hz5
  obtain ⟨q0, q1, qf0, qf1⟩ := cells2 hq5
  obtain ⟨a0, a1, a2, a3, i0, i1, i2, i3⟩ := h5d.parts
  have H5 := Lib.hid (And.intro h5 (And.intro hz5 (And.intro hq5 hb4)))
  clear hr4 hr4' h4 f4 hz4 hq4 hb4 h5 hz5 hq5 h5d hCall
  go_wp2_with fail
  refine (hWl _ (by exact H5.out.1)).mono ?_
  rintro e w6 ⟨rfl, rfl⟩
  go_wp2_with fail
  go_region
  all_goals
    go_wp2_with fail
    obtain ⟨h5, hz5, hq5, hb4⟩ := H5.out
    have hd := blk_set_ne (a := ⟨F + 1, 1, none⟩) (v := .int .i64 r.at_) (blk_set_ne (a := ⟨F + 1, 0, none⟩) (v := .int .i64 r.why) (blk_set (i := 3) (v := .slice none 0 0) (blk_set (i := 2) (v := St []) (blk_set (i := 1) (v := St []) (blk_set (i := 0) (v := .int .i64 0) (show (w4.alloc (.cells #[.int .i64 kd, St tt, St ta, .slice A kids.length c] 24)).heap[F]? = _ from hz5))))) (by simp)) (by simp)
    have hq := blk_set (i := 1) (v := .int .i64 r.at_) (blk_set (i := 0) (v := .int .i64 r.why) (blk_set_ne (a := ⟨F, 3, none⟩) (v := .slice none 0 0) (blk_set_ne (a := ⟨F, 2, none⟩) (v := St []) (blk_set_ne (a := ⟨F, 1, none⟩) (v := St []) (blk_set_ne (a := ⟨F, 0, none⟩) (v := .int .i64 0) (show (w4.alloc (.cells #[.int .i64 kd, St tt, St ta, .slice A kids.length c] 24)).heap[F + 1]? = _ from hq5) (by simp)) (by simp)) (by simp)) (by simp)))
    have e0 := blk_cell hd 0
    have e1 := blk_cell hd 1
    have e2 := blk_cell hd 2
    have e3 := blk_cell hd 3
    have e4 := blk_cell hq 0
    have e5 := blk_cell hq 1
    exact bodyPost_ret (v := .tuple #[.agg #[.int .i64 0, St [], St [], .slice none 0 0], .int .i64 0, Ft r.why r.at_]) (by simp [results, Tryz.results15, go_sem, e0, e1, e2, e3, e4, e5]) rfl
      ⟨rfl, by rw [hF]; exact ((((((((hb4.alloc (by have := hb4.size; omega) _).setCell (Nat.le_refl _) _).setCell (Nat.le_refl _) _).setCell (Nat.le_refl _) _).setCell (Nat.le_refl _) _).setCell (Nat.le_succ _) _).setCell (Nat.le_succ _) _)).drew⟩
end Go.Proofs.YtbmonfcahhhdeaaGreatDoor

namespace Go.Proofs.YtbmonfcahhhdeaaGreatDoor
open Go.RowKit

set_option maxHeartbeats 8000000 in
set_option maxRecDepth 100000 in
theorem flow_Read_well (n : Nat) (hn : n ≤ 4294967296) (s : Bs) (hs : s.length < 4294967296) (f : Bool) (t : T) (r : FRd) (hm : FRd.value n (FRd.start s) f 0 = some (t, r)) (hw : r.well = true) (G : Nat) (w : World) (he : Env G w) :
    Calls Tryz.prog 15 #[St s, .bool f] w fun e w' => (∃ v, Rep1 w' (fun b => w.heap.size ≤ b) t v ∧ e = .returned (.tuple #[v, .int .i64 (trimR (s.take r.pos.toNat) [32]).length, Ft 0 0])) ∧ Below w.heap.size w w' := by
  obtain ⟨F, hF⟩ : ∃ F, w.heap.size = F := ⟨_, rfl⟩
  have hG := he.le
  have hV := value_spec (F + 2) s.length (by omega) G (by omega) n hn f 0 (by decide) (by decide)
  have ok0 : (FRd.start s).Ok := ⟨Int.le_refl _, by show (s.length : Int) ≤ _; omega⟩
  have hB3 : Below F w (((w.alloc (.cells #[.int .i64 0, St [], St [], .slice none 0 0] 24)).alloc (.cells #[.int .i64 0, .int .i64 0] 31)).alloc (.cells #[.int .i64 s.length, St s, .int .i64 0, .int .i64 0] 60)) := by
    rw [← hF]; exact (((Below.refl _ _).alloc (Nat.le_refl _) _).alloc (by simp) _).alloc (by simp; omega) _
  have hA3 : (FRd.start s).At (((w.alloc (.cells #[.int .i64 0, St [], St [], .slice none 0 0] 24)).alloc (.cells #[.int .i64 0, .int .i64 0] 31)).alloc (.cells #[.int .i64 s.length, St s, .int .i64 0, .int .i64 0] 60)) (F + 2) := by
    have := blk_new ((w.alloc (.cells #[.int .i64 0, St [], St [], .slice none 0 0] 24)).alloc (.cells #[.int .i64 0, .int .i64 0] 31)) (.cells #[.int .i64 s.length, St s, .int .i64 0, .int .i64 0] 60)
    rw [World.size_alloc, World.size_alloc, hF] at this
    exact this
  have hz3 : (((w.alloc (.cells #[.int .i64 0, St [], St [], .slice none 0 0] 24)).alloc (.cells #[.int .i64 0, .int .i64 0] 31)).alloc (.cells #[.int .i64 s.length, St s, .int .i64 0, .int .i64 0] 60)).heap[F]? = some (.cells #[.int .i64 0, St [], St [], .slice none 0 0] 24) := by
    rw [← hF]; exact blk_alloc (blk_alloc (blk_new _ _))
  have hq3 : (((w.alloc (.cells #[.int .i64 0, St [], St [], .slice none 0 0] 24)).alloc (.cells #[.int .i64 0, .int .i64 0] 31)).alloc (.cells #[.int .i64 s.length, St s, .int .i64 0, .int .i64 0] 60)).heap[F + 1]? = some (.cells #[.int .i64 0, .int .i64 0] 31) := by
    rw [← hF]; exact blk_alloc (blk_new1 _ _ _)
  have he3 := he.below hB3 (by omega)
  have hCall := hV (FRd.start s) t r _ hm ok0 rfl he3 hA3
  have hWl := fun w' h' => frd_well (F + 2) r w' h'
  rw [hw] at hWl
  have hsub := FRd.sub_value n _ f 0 _ _ hm
  have okr := hsub.ok ok0
  have hAt := fun w' h' => frd_at (F + 2) r w' h' okr
  have hp0 : 0 ≤ r.pos := by have := okr.len; unfold FRd.pos; omega
  have hp1 : r.pos ≤ s.length := by have h1 := hsub.1; have h2 : (FRd.start s).whole = s.length := rfl; unfold FRd.pos; omega
  have hsl : ∀ w', (Instr.slice 9 (St s) none (some (.int .i64 r.pos)) none).run Tryz.prog w' = .ok (St (s.take r.pos.toNat)) w' := fun w' => by
    rw [run_slice_string_h w' 9 _ Tryz.underlying9 .i64 _ hp0 (by show r.pos ≤ (s.length : Int); exact hp1), extract_begin]
  have hTr := fun w' => str_TrimRight (s.take r.pos.toNat) 32 (by decide) (by rw [List.length_take]; omega) w'
  have hex : ∀ h, ByteArray.extract ⟨s.toArray⟩ 0 r.pos.toNat = ⟨(s.take r.pos.toNat).toArray⟩ := fun _ : True => extract_begin s r.pos.toNat
  have H3 := Lib.hid (And.intro hB3 (And.intro hz3 hq3))
  obtain ⟨kd, tt, ta, kids⟩ := t
  clear hV he he3 hA3 hz3 hq3 hB3 hm ok0
  generalize r.pos = P at hAt hp0 hp1 hsl hTr hex ⊢
  generalize trimR (s.take P.toNat) [32] = Y at hTr ⊢
  go_enter Tryz.func15, Tryz.ntmps15
  go_wp2_with fail
  refine hCall.mono ?_
  rintro e w4 ⟨v, rfl, hr4, h4, f4⟩
  obtain ⟨A, c, rfl, hr4'⟩ := hr4.shape
  have hz4 := blk_fr H3.out.2.1 f4 (blk_lt H3.out.2.1) (by omega)
  have hq4 := blk_fr H3.out.2.2 f4 (blk_lt H3.out.2.2) (by omega)
  have hb4 : Below F w w4 := H3.out.1.trans ((f4.mono (S' := (· = F + 2)) (B' := F) (by simp; omega) (fun _ _ h => h)).toBelow (fun k hk h => by omega))
  have h5 : r.At (w4.alloc (.cells #[.int .i64 kd, St tt, St ta, .slice A kids.length c] 24)) (F + 2) := blk_alloc h4
  have hz5 : (w4.alloc (.cells #[.int .i64 kd, St tt, St ta, .slice A kids.length c] 24)).drew.heap[F]? = some (.cells #[.int .i64 0, St [], St [], .slice none 0 0] 24) := blk_alloc hz4
  have hq5 : (w4.alloc (.cells #[.int .i64 kd, St tt, St ta, .slice A kids.length c] 24)).drew.heap[F + 1]? = some (.cells #[.int .i64 0, .int .i64 0] 31) := blk_alloc hq4
  have h5d : r.At (w4.alloc (.cells #[.int .i64 kd, St tt, St ta, .slice A kids.length c] 24)).drew (F + 2) := h5
  obtain ⟨zz0, zz1, zz2, zz3, yy0, yy1, yy2, yy3⟩ := cells4 (blk_alloc (x := .cells #[.int .i64 kd, St tt, St ta, .slice A kids.length c] 24) hz4)
  obtain ⟨qq0, qq1, qqf0, qqf1⟩ := cells2 (blk_alloc (x := .cells #[.int .i64 kd, St tt, St ta, .slice A kids.length c] 24) hq4)
  obtain ⟨aa0, aa1, aa2, aa3, ii0, ii1, ii2, ii3⟩ := h5.parts
  obtain ⟨z0, z1, z2, z3, y0, y1, y2, y3⟩ := cells4 hz5
  obtain ⟨q0, q1, qf0, qf1⟩ := cells2 hq5
  obtain ⟨a0, a1, a2, a3, i0, i1, i2, i3⟩ := h5d.parts
  have HB3 : (((w.alloc (.cells #[.int .i64 0, St [], St [], .slice none 0 0] 24)).alloc (.cells #[.int .i64 0, .int .i64 0] 31)).alloc (.cells #[.int .i64 s.length, St s, .int .i64 0, .int .i64 0] 60)).heap.size = F + 3 := by rw [World.size_alloc, World.size_alloc, World.size_alloc, hF]
  rw [HB3] at hr4'
  have HRP := Lib.hid hr4'
  have H5 := Lib.hid (And.intro h5 (And.intro hz5 (And.intro hq5 hb4)))
  clear hr4 hr4' h4 f4 hz4 hq4 hb4 h5 hz5 hq5 h5d hCall
  go_wp2_with fail
  refine (hWl _ (by exact H5.out.1)).mono ?_
  rintro e w6 ⟨rfl, rfl⟩
  go_wp2_with fail
  go_region_with (first | (go_at_call 33; refine (hAt _ (by exact H5.out.1)).mono ?_; rintro x w7 ⟨rfl, n7, rfl⟩) | (go_at_call 32; refine (hTr _).mono ?_; rintro x w8 ⟨rfl, rfl⟩))
  all_goals
    go_wp2_with fail
    obtain ⟨h5, hz5, hq5, hb4⟩ := H5.out
    have hd := blk_set_ne (a := ⟨F + 1, 1, none⟩) (v := .int .i64 0) (blk_set_ne (a := ⟨F + 1, 0, none⟩) (v := .int .i64 0) (blk_set (i := 3) (v := .slice A kids.length c) (blk_set (i := 2) (v := St ta) (blk_set (i := 1) (v := St tt) (blk_set (i := 0) (v := .int .i64 kd) (show ((w4.alloc (.cells #[.int .i64 kd, St tt, St ta, .slice A kids.length c] 24)).drewN (1 + n7)).heap[F]? = _ from hz5))))) (by simp)) (by simp)
    have hq := blk_set (i := 1) (v := .int .i64 0) (blk_set (i := 0) (v := .int .i64 0) (blk_set_ne (a := ⟨F, 3, none⟩) (v := .slice A kids.length c) (blk_set_ne (a := ⟨F, 2, none⟩) (v := St ta) (blk_set_ne (a := ⟨F, 1, none⟩) (v := St tt) (blk_set_ne (a := ⟨F, 0, none⟩) (v := .int .i64 kd) (show ((w4.alloc (.cells #[.int .i64 kd, St tt, St ta, .slice A kids.length c] 24)).drewN (1 + n7)).heap[F + 1]? = _ from hq5) (by simp)) (by simp)) (by simp)) (by simp)))
    have e0 := blk_cell hd 0
    have e1 := blk_cell hd 1
    have e2 := blk_cell hd 2
    have e3 := blk_cell hd 3
    have e4 := blk_cell hq 0
    have e5 := blk_cell hq 1
    exact bodyPost_ret (v := .tuple #[.agg #[.int .i64 kd, St tt, St ta, .slice A kids.length c], .int .i64 (Y.length : Nat), Ft 0 0]) (by simp [results, Tryz.results15, go_sem, e0, e1, e2, e3, e4, e5]) rfl
      ⟨⟨_, ⟨_, _, _, _, rfl, HRP.out.keep (fun b hb hK => by
          have hK' : F + 3 ≤ b := hK
          rw [Below.heap_setCell _ _ _ _ (by simp; omega), Below.heap_setCell _ _ _ _ (by simp; omega), Below.heap_setCell _ _ _ _ (by simp; omega), Below.heap_setCell _ _ _ _ (by simp; omega), Below.heap_setCell _ _ _ _ (by simp; omega), Below.heap_setCell _ _ _ _ (by simp; omega)]
          exact Below.heap_alloc _ _ _ hb) (fun b _ hK => by have hK' : F + 3 ≤ b := hK; show w.heap.size ≤ b; omega)⟩, rfl⟩,
        by rw [hF]; exact (((((((below_drewN' (hb4.alloc (by have := hb4.size; omega) _) (1 + n7)).setCell (Nat.le_refl _) _).setCell (Nat.le_refl _) _).setCell (Nat.le_refl _) _).setCell (Nat.le_refl _) _).setCell (Nat.le_succ _) _).setCell (Nat.le_succ _) _)⟩
end Go.Proofs.YtbmonfcahhhdeaaGreatDoor

namespace Go.Proofs.YtbmonfcahhhdeaaGreatDoor
open Go.RowKit

/-- Read's contract, in one. -/
theorem flow_Read (n : Nat) (hn : n ≤ 4294967296) (s : Bs) (hs : s.length < 4294967296) (f : Bool) (t : T) (k y a : Int) (hm : readM n s f = some (t, k, y, a)) (G : Nat) (w : World) (he : Env G w) :
    Calls Tryz.prog 15 #[St s, .bool f] w fun e w' => (∃ v, Rep1 w' (fun b => w.heap.size ≤ b) t v ∧ e = .returned (.tuple #[v, .int .i64 k, Ft y a])) ∧ Below w.heap.size w w' := by
  unfold readM at hm
  rcases hv : FRd.value n (FRd.start s) f 0 with _ | ⟨t', r⟩
  · rw [hv] at hm; cases hm
  rw [hv] at hm
  simp only [] at hm
  cases hw : r.well with
  | true =>
    rw [hw, if_pos rfl] at hm
    simp only [Option.some.injEq, Prod.mk.injEq] at hm
    obtain ⟨rfl, rfl, rfl, rfl⟩ := hm
    exact flow_Read_well n hn s hs f t' r hv hw G w he
  | false =>
    rw [hw, if_neg (by decide)] at hm
    simp only [Option.some.injEq, Prod.mk.injEq] at hm
    obtain ⟨rfl, rfl, rfl, rfl⟩ := hm
    refine (flow_Read_ill n hn s hs f t' r hv hw G w he).mono ?_
    rintro e w' ⟨rfl, hb⟩
    exact ⟨⟨_, rep_leaf _ _ _ _ _, rfl⟩, hb⟩

set_option maxHeartbeats 8000000 in
set_option maxRecDepth 100000 in
theorem flow_Whole_ok (n : Nat) (hn : n ≤ 4294967296) (s : Bs) (hs : s.length ≤ 65536) (t : T) (k : Int) (hm : readM n s false = some (t, k, 0, 0)) (hk0 : 0 ≤ k) (hk1 : k ≤ s.length) (hrest : trimL (s.drop k.toNat) [32] = []) (G : Nat) (w : World) (he : Env G w) :
    Calls Tryz.prog 13 #[St s] w fun e w' => (∃ v, Rep1 w' (fun b => w.heap.size ≤ b) t v ∧ e = .returned (.tuple #[v, Ft 0 0])) ∧ Below w.heap.size w w' := by
  obtain ⟨F, hF⟩ : ∃ F, w.heap.size = F := ⟨_, rfl⟩
  have hR := fun w' he' => flow_Read n hn s (by omega) false t k 0 0 hm G w' he'
  have hb2 : Below F w ((w.alloc (.cells #[.int .i64 0, St [], St [], .slice none 0 0] 24)).alloc (.cells #[.int .i64 0, .int .i64 0] 31)) := by rw [← hF]; exact ((Below.refl _ _).alloc (Nat.le_refl _) _).alloc (by simp) _
  have he2 := he.below hb2 (by rw [← hF]; exact he.le)
  have hz2 : ((w.alloc (.cells #[.int .i64 0, St [], St [], .slice none 0 0] 24)).alloc (.cells #[.int .i64 0, .int .i64 0] 31)).heap[F]? = some (.cells #[.int .i64 0, St [], St [], .slice none 0 0] 24) := by rw [← hF]; exact blk_alloc (blk_new _ _)
  have hq2 : ((w.alloc (.cells #[.int .i64 0, St [], St [], .slice none 0 0] 24)).alloc (.cells #[.int .i64 0, .int .i64 0] 31)).heap[F + 1]? = some (.cells #[.int .i64 0, .int .i64 0] 31) := by rw [← hF]; exact blk_new1 _ _ _
  have hsz2 : ((w.alloc (.cells #[.int .i64 0, St [], St [], .slice none 0 0] 24)).alloc (.cells #[.int .i64 0, .int .i64 0] 31)).heap.size = F + 2 := by rw [World.size_alloc, World.size_alloc, hF]
  have hRd := hR _ he2
  have hsl : ∀ w', (Instr.slice 9 (St s) (some (.int .i64 k)) none none).run Tryz.prog w' = .ok (St (s.drop k.toNat)) w' := fun w' => by
    have := slice_drop s k.toNat (by omega) w'
    rwa [Int.toNat_of_nonneg hk0] at this
  have hT := fun w' => str_TrimLeft (s.drop k.toNat) 32 (by decide) w'
  rw [hrest] at hT
  have hlB : ¬ ((s.length : Int) > 65536) := by omega
  have H2 := Lib.hid (And.intro hb2 (And.intro hz2 (And.intro hq2 hsz2)))
  obtain ⟨kd, tt, ta, kids⟩ := t
  clear hR he he2 hb2 hz2 hq2 hm hsz2 hrest
  generalize s.drop k.toNat = D at hsl hT
  go_enter Tryz.func13, Tryz.ntmps13
  go_wp2_with fail
  refine hRd.mono ?_
  rintro e w3 ⟨⟨v, hr, rfl⟩, hb3⟩
  obtain ⟨A, c, rfl, hr'⟩ := hr.shape
  rw [H2.out.2.2.2] at hr'
  have hz3 := blk_below H2.out.2.1 hb3 (blk_lt H2.out.2.1)
  have hq3 := blk_below H2.out.2.2.1 hb3 (blk_lt H2.out.2.2.1)
  have hb3' : Below F w w3 := H2.out.1.trans (hb3.mono (by rw [H2.out.2.2.2]; omega))
  obtain ⟨z0, z1, z2, z3, y0, y1, y2, y3⟩ := cells4 hz3
  obtain ⟨q0, q1, qf0, qf1⟩ := cells2 hq3
  obtain ⟨X, hX⟩ : ∃ X, w3.heap.size = X := ⟨_, rfl⟩
  have hFX : F + 1 < X := by rw [← hX]; exact blk_lt hq3
  have HX := Lib.hid (And.intro hr' (And.intro hz3 (And.intro hq3 (And.intro hb3' hX))))
  clear hr hr' hz3 hq3 hb3' hb3 hRd
  have hz5 : ((w3.alloc (.cells #[.int .i64 kd, St tt, St ta, .slice A kids.length c] 24)).alloc (.cells #[.int .i64 0, .int .i64 0] 31)).heap[F]? = some (.cells #[.int .i64 0, St [], St [], .slice none 0 0] 24) := blk_alloc (blk_alloc HX.out.2.1)
  have hq5 : ((w3.alloc (.cells #[.int .i64 kd, St tt, St ta, .slice A kids.length c] 24)).alloc (.cells #[.int .i64 0, .int .i64 0] 31)).heap[F + 1]? = some (.cells #[.int .i64 0, .int .i64 0] 31) := blk_alloc (blk_alloc HX.out.2.2.1)
  have hx5 : ((w3.alloc (.cells #[.int .i64 kd, St tt, St ta, .slice A kids.length c] 24)).alloc (.cells #[.int .i64 0, .int .i64 0] 31)).heap[X]? = some (.cells #[.int .i64 kd, St tt, St ta, .slice A kids.length c] 24) := by rw [← hX]; exact blk_alloc (blk_new _ _)
  have hy5 : ((w3.alloc (.cells #[.int .i64 kd, St tt, St ta, .slice A kids.length c] 24)).alloc (.cells #[.int .i64 0, .int .i64 0] 31)).heap[X + 1]? = some (.cells #[.int .i64 0, .int .i64 0] 31) := by rw [← hX]; exact blk_new1 _ _ _
  clear z0 z1 z2 z3 y0 y1 y2 y3 q0 q1 qf0 qf1
  obtain ⟨z0, z1, z2, z3, y0, y1, y2, y3⟩ := cells4 hz5
  obtain ⟨q0, q1, qf0, qf1⟩ := cells2 hq5
  obtain ⟨x0, x1, x2, x3, xf0, xf1, xf2, xf3⟩ := cells4 hx5
  obtain ⟨v0, v1, vf0, vf1⟩ := cells2 hy5
  have H5 := Lib.hid (And.intro hz5 hq5)
  clear hz5 hq5 hx5 hy5 hX
  go_wp2_with fail
  refine (hT _).mono ?_
  rintro e w6 ⟨rfl, rfl⟩
  go_wp2_with fail
  have hd := blk_set_ne (a := ⟨F + 1, 1, none⟩) (v := .int .i64 0) (blk_set_ne (a := ⟨F + 1, 0, none⟩) (v := .int .i64 0) (blk_set (i := 3) (v := .slice A kids.length c) (blk_set (i := 2) (v := St ta) (blk_set (i := 1) (v := St tt) (blk_set (i := 0) (v := .int .i64 kd) H5.out.1)))) (by simp)) (by simp)
  have hq := blk_set (i := 1) (v := .int .i64 0) (blk_set (i := 0) (v := .int .i64 0) (blk_set_ne (a := ⟨F, 3, none⟩) (v := .slice A kids.length c) (blk_set_ne (a := ⟨F, 2, none⟩) (v := St ta) (blk_set_ne (a := ⟨F, 1, none⟩) (v := St tt) (blk_set_ne (a := ⟨F, 0, none⟩) (v := .int .i64 kd) H5.out.2 (by simp)) (by simp)) (by simp)) (by simp)))
  have e0 := blk_cell hd 0
  have e1 := blk_cell hd 1
  have e2 := blk_cell hd 2
  have e3 := blk_cell hd 3
  have e4 := blk_cell hq 0
  have e5 := blk_cell hq 1
  exact bodyPost_ret (v := .tuple #[.agg #[.int .i64 kd, St tt, St ta, .slice A kids.length c], Ft 0 0]) (by simp [results, Tryz.results13, go_sem, e0, e1, e2, e3, e4, e5]) rfl
    ⟨⟨_, ⟨_, _, _, _, rfl, HX.out.1.keep (fun b hb hK => by
        have hK' : F + 2 ≤ b := hK
        rw [Below.heap_setCell _ _ _ _ (by simp; omega), Below.heap_setCell _ _ _ _ (by simp; omega), Below.heap_setCell _ _ _ _ (by simp; omega), Below.heap_setCell _ _ _ _ (by simp; omega), Below.heap_setCell _ _ _ _ (by simp; omega), Below.heap_setCell _ _ _ _ (by simp; omega)]
        rw [Below.heap_alloc _ _ _ (by simp; omega)]
        exact Below.heap_alloc _ _ _ hb) (fun b _ hK => by have hK' : F + 2 ≤ b := hK; show w.heap.size ≤ b; omega)⟩, rfl⟩, by rw [hF]; exact (((((((HX.out.2.2.2.1.alloc (by have := HX.out.2.2.2.1.size; omega) _).alloc (by have := HX.out.2.2.2.1.size; simp; omega) _).setCell (Nat.le_refl _) _).setCell (Nat.le_refl _) _).setCell (Nat.le_refl _) _).setCell (Nat.le_refl _) _).setCell (Nat.le_succ _) _).setCell (Nat.le_succ _) _⟩

set_option maxHeartbeats 8000000 in
set_option maxRecDepth 100000 in
theorem flow_Whole_ill (n : Nat) (hn : n ≤ 4294967296) (s : Bs) (hs : s.length ≤ 65536) (t : T) (k y a : Int) (hm : readM n s false = some (t, k, y, a)) (hy0 : y ≠ 0) (G : Nat) (w : World) (he : Env G w) :
    Calls Tryz.prog 13 #[St s] w fun e w' => e = .returned (.tuple #[.agg #[.int .i64 0, St [], St [], .slice none 0 0], Ft y a]) ∧ Below w.heap.size w w' := by
  obtain ⟨F, hF⟩ : ∃ F, w.heap.size = F := ⟨_, rfl⟩
  have hR := fun w' he' => flow_Read n hn s (by omega) false t k y a hm G w' he'
  have hb2 : Below F w ((w.alloc (.cells #[.int .i64 0, St [], St [], .slice none 0 0] 24)).alloc (.cells #[.int .i64 0, .int .i64 0] 31)) := by rw [← hF]; exact ((Below.refl _ _).alloc (Nat.le_refl _) _).alloc (by simp) _
  have he2 := he.below hb2 (by rw [← hF]; exact he.le)
  have hz2 : ((w.alloc (.cells #[.int .i64 0, St [], St [], .slice none 0 0] 24)).alloc (.cells #[.int .i64 0, .int .i64 0] 31)).heap[F]? = some (.cells #[.int .i64 0, St [], St [], .slice none 0 0] 24) := by rw [← hF]; exact blk_alloc (blk_new _ _)
  have hq2 : ((w.alloc (.cells #[.int .i64 0, St [], St [], .slice none 0 0] 24)).alloc (.cells #[.int .i64 0, .int .i64 0] 31)).heap[F + 1]? = some (.cells #[.int .i64 0, .int .i64 0] 31) := by rw [← hF]; exact blk_new1 _ _ _
  have hsz2 : ((w.alloc (.cells #[.int .i64 0, St [], St [], .slice none 0 0] 24)).alloc (.cells #[.int .i64 0, .int .i64 0] 31)).heap.size = F + 2 := by rw [World.size_alloc, World.size_alloc, hF]
  have hRd := hR _ he2
  have hfB : (y == 0) = false := by simpa using hy0
  have hfC : (y != 0) = true := by simpa using hy0
  clear hy0
  have hlB : ¬ ((s.length : Int) > 65536) := by omega
  have H2 := Lib.hid (And.intro hb2 (And.intro hz2 (And.intro hq2 hsz2)))
  obtain ⟨kd, tt, ta, kids⟩ := t
  clear hR he he2 hb2 hz2 hq2 hm hsz2
  go_enter Tryz.func13, Tryz.ntmps13
  go_wp2_with fail
  refine hRd.mono ?_
  rintro e w3 ⟨⟨v, hr, rfl⟩, hb3⟩
  obtain ⟨A, c, rfl, hr'⟩ := hr.shape
  rw [H2.out.2.2.2] at hr'
  have hz3 := blk_below H2.out.2.1 hb3 (blk_lt H2.out.2.1)
  have hq3 := blk_below H2.out.2.2.1 hb3 (blk_lt H2.out.2.2.1)
  have hb3' : Below F w w3 := H2.out.1.trans (hb3.mono (by rw [H2.out.2.2.2]; omega))
  obtain ⟨z0, z1, z2, z3, y0, y1, y2, y3⟩ := cells4 hz3
  obtain ⟨q0, q1, qf0, qf1⟩ := cells2 hq3
  obtain ⟨X, hX⟩ : ∃ X, w3.heap.size = X := ⟨_, rfl⟩
  have hFX : F + 1 < X := by rw [← hX]; exact blk_lt hq3
  have HX := Lib.hid (And.intro hr' (And.intro hz3 (And.intro hq3 (And.intro hb3' hX))))
  clear hr hr' hz3 hq3 hb3' hb3 hRd
  have hz5 : ((w3.alloc (.cells #[.int .i64 kd, St tt, St ta, .slice A kids.length c] 24)).alloc (.cells #[.int .i64 y, .int .i64 a] 31)).heap[F]? = some (.cells #[.int .i64 0, St [], St [], .slice none 0 0] 24) := blk_alloc (blk_alloc HX.out.2.1)
  have hq5 : ((w3.alloc (.cells #[.int .i64 kd, St tt, St ta, .slice A kids.length c] 24)).alloc (.cells #[.int .i64 y, .int .i64 a] 31)).heap[F + 1]? = some (.cells #[.int .i64 0, .int .i64 0] 31) := blk_alloc (blk_alloc HX.out.2.2.1)
  have hx5 : ((w3.alloc (.cells #[.int .i64 kd, St tt, St ta, .slice A kids.length c] 24)).alloc (.cells #[.int .i64 y, .int .i64 a] 31)).heap[X]? = some (.cells #[.int .i64 kd, St tt, St ta, .slice A kids.length c] 24) := by rw [← hX]; exact blk_alloc (blk_new _ _)
  have hy5 : ((w3.alloc (.cells #[.int .i64 kd, St tt, St ta, .slice A kids.length c] 24)).alloc (.cells #[.int .i64 y, .int .i64 a] 31)).heap[X + 1]? = some (.cells #[.int .i64 y, .int .i64 a] 31) := by rw [← hX]; exact blk_new1 _ _ _
  clear z0 z1 z2 z3 y0 y1 y2 y3 q0 q1 qf0 qf1
  obtain ⟨z0, z1, z2, z3, yf0, yf1, yf2, yf3⟩ := cells4 hz5
  obtain ⟨q0, q1, qf0, qf1⟩ := cells2 hq5
  obtain ⟨x0, x1, x2, x3, xf0, xf1, xf2, xf3⟩ := cells4 hx5
  obtain ⟨v0, v1, vf0, vf1⟩ := cells2 hy5
  have H5 := Lib.hid (And.intro hz5 hq5)
  obtain ⟨zz0, zz1, zz2, zz3, yy0, yy1, yy2, yy3⟩ := cells4 (show ((w3.alloc (.cells #[.int .i64 kd, St tt, St ta, .slice A kids.length c] 24)).alloc (.cells #[.int .i64 y, .int .i64 a] 31)).drew.heap[F]? = _ from hz5)
  obtain ⟨qq0, qq1, qqf0, qqf1⟩ := cells2 (show ((w3.alloc (.cells #[.int .i64 kd, St tt, St ta, .slice A kids.length c] 24)).alloc (.cells #[.int .i64 y, .int .i64 a] 31)).drew.heap[F + 1]? = _ from hq5)
  obtain ⟨vv0, vv1, vvf0, vvf1⟩ := cells2 (show ((w3.alloc (.cells #[.int .i64 kd, St tt, St ta, .slice A kids.length c] 24)).alloc (.cells #[.int .i64 y, .int .i64 a] 31)).drew.heap[X + 1]? = _ from hy5)
  clear hz5 hq5 hx5 hy5
  go_wp2_with fail
  go_region
  all_goals
    go_wp2_with fail
    have hd := blk_set_ne (a := ⟨F + 1, 1, none⟩) (v := .int .i64 a) (blk_set_ne (a := ⟨F + 1, 0, none⟩) (v := .int .i64 y) (blk_set (i := 3) (v := .slice none 0 0) (blk_set (i := 2) (v := St []) (blk_set (i := 1) (v := St []) (blk_set (i := 0) (v := .int .i64 0) H5.out.1)))) (by simp)) (by simp)
    have hq := blk_set (i := 1) (v := .int .i64 a) (blk_set (i := 0) (v := .int .i64 y) (blk_set_ne (a := ⟨F, 3, none⟩) (v := .slice none 0 0) (blk_set_ne (a := ⟨F, 2, none⟩) (v := St []) (blk_set_ne (a := ⟨F, 1, none⟩) (v := St []) (blk_set_ne (a := ⟨F, 0, none⟩) (v := .int .i64 0) H5.out.2 (by simp)) (by simp)) (by simp)) (by simp)))
    have e0 := blk_cell hd 0
    have e1 := blk_cell hd 1
    have e2 := blk_cell hd 2
    have e3 := blk_cell hd 3
    have e4 := blk_cell hq 0
    have e5 := blk_cell hq 1
    exact bodyPost_ret (v := .tuple #[.agg #[.int .i64 0, St [], St [], .slice none 0 0], Ft y a]) (by simp [results, Tryz.results13, go_sem, e0, e1, e2, e3, e4, e5]) rfl
      ⟨rfl, by rw [hF]; exact ((((((((HX.out.2.2.2.1.alloc (by have := HX.out.2.2.2.1.size; omega) _).alloc (by have := HX.out.2.2.2.1.size; simp; omega) _).setCell (Nat.le_refl _) _).setCell (Nat.le_refl _) _).setCell (Nat.le_refl _) _).setCell (Nat.le_refl _) _).setCell (Nat.le_succ _) _).setCell (Nat.le_succ _) _).drew⟩
end Go.Proofs.YtbmonfcahhhdeaaGreatDoor

namespace Go.Proofs.YtbmonfcahhhdeaaGreatDoor
open Go.RowKit

set_option maxHeartbeats 8000000 in
set_option maxRecDepth 100000 in
theorem flow_Whole_rest (n : Nat) (hn : n ≤ 4294967296) (s : Bs) (hs : s.length ≤ 65536) (t : T) (k : Int) (hm : readM n s false = some (t, k, 0, 0)) (hk0 : 0 ≤ k) (hk1 : k ≤ s.length) (x : UInt8) (z : Bs) (hrest : trimL (s.drop k.toNat) [32] = x :: z) (G : Nat) (w : World) (he : Env G w) :
    Calls Tryz.prog 13 #[St s] w fun e w' => e = .returned (.tuple #[.agg #[.int .i64 0, St [], St [], .slice none 0 0], Ft 3 ((s.length : Int) - ((z.length : Int) + 1))]) ∧ Below w.heap.size w w' := by
  obtain ⟨F, hF⟩ : ∃ F, w.heap.size = F := ⟨_, rfl⟩
  have hR := fun w' he' => flow_Read n hn s (by omega) false t k 0 0 hm G w' he'
  have hb2 : Below F w ((w.alloc (.cells #[.int .i64 0, St [], St [], .slice none 0 0] 24)).alloc (.cells #[.int .i64 0, .int .i64 0] 31)) := by rw [← hF]; exact ((Below.refl _ _).alloc (Nat.le_refl _) _).alloc (by simp) _
  have he2 := he.below hb2 (by rw [← hF]; exact he.le)
  have hz2 : ((w.alloc (.cells #[.int .i64 0, St [], St [], .slice none 0 0] 24)).alloc (.cells #[.int .i64 0, .int .i64 0] 31)).heap[F]? = some (.cells #[.int .i64 0, St [], St [], .slice none 0 0] 24) := by rw [← hF]; exact blk_alloc (blk_new _ _)
  have hq2 : ((w.alloc (.cells #[.int .i64 0, St [], St [], .slice none 0 0] 24)).alloc (.cells #[.int .i64 0, .int .i64 0] 31)).heap[F + 1]? = some (.cells #[.int .i64 0, .int .i64 0] 31) := by rw [← hF]; exact blk_new1 _ _ _
  have hsz2 : ((w.alloc (.cells #[.int .i64 0, St [], St [], .slice none 0 0] 24)).alloc (.cells #[.int .i64 0, .int .i64 0] 31)).heap.size = F + 2 := by rw [World.size_alloc, World.size_alloc, hF]
  have hRd := hR _ he2
  have hsl : ∀ w', (Instr.slice 9 (St s) (some (.int .i64 k)) none none).run Tryz.prog w' = .ok (St (s.drop k.toNat)) w' := fun w' => by
    have := slice_drop s k.toNat (by omega) w'
    rwa [Int.toNat_of_nonneg hk0] at this
  have hT := fun w' => str_TrimLeft (s.drop k.toNat) 32 (by decide) w'
  rw [hrest] at hT
  have hzl : z.length + 1 ≤ s.length := by
    have h1 := trimL_le (s.drop k.toNat) [32]
    rw [hrest, List.length_drop] at h1
    simp only [List.length_cons] at h1
    omega
  have hwr : IntKind.i64.wrap ((s.length : Int) - ((z.length : Int) + 1)) = (s.length : Int) - ((z.length : Int) + 1) := by rw [IntKind.wrap_i64]; omega
  have hwr2 : wrap64 ((s.length : Int) - ((z.length : Int) + 1)) = (s.length : Int) - ((z.length : Int) + 1) := by unfold wrap64; omega
  have HZL := Lib.hid hzl
  have hlB : ¬ ((s.length : Int) > 65536) := by omega
  have H2 := Lib.hid (And.intro hb2 (And.intro hz2 (And.intro hq2 hsz2)))
  obtain ⟨kd, tt, ta, kids⟩ := t
  clear hR he he2 hb2 hz2 hq2 hm hsz2 hrest
  generalize s.drop k.toNat = D at hsl hT
  go_enter Tryz.func13, Tryz.ntmps13
  go_wp2_with fail
  refine hRd.mono ?_
  rintro e w3 ⟨⟨v, hr, rfl⟩, hb3⟩
  obtain ⟨A, c, rfl, hr'⟩ := hr.shape
  rw [H2.out.2.2.2] at hr'
  have hz3 := blk_below H2.out.2.1 hb3 (blk_lt H2.out.2.1)
  have hq3 := blk_below H2.out.2.2.1 hb3 (blk_lt H2.out.2.2.1)
  have hb3' : Below F w w3 := H2.out.1.trans (hb3.mono (by rw [H2.out.2.2.2]; omega))
  obtain ⟨z0, z1, z2, z3, y0, y1, y2, y3⟩ := cells4 hz3
  obtain ⟨q0, q1, qf0, qf1⟩ := cells2 hq3
  obtain ⟨X, hX⟩ : ∃ X, w3.heap.size = X := ⟨_, rfl⟩
  have hFX : F + 1 < X := by rw [← hX]; exact blk_lt hq3
  have HX := Lib.hid (And.intro hr' (And.intro hz3 (And.intro hq3 (And.intro hb3' hX))))
  clear hr hr' hz3 hq3 hb3' hb3 hRd
  have hz5 : ((w3.alloc (.cells #[.int .i64 kd, St tt, St ta, .slice A kids.length c] 24)).alloc (.cells #[.int .i64 0, .int .i64 0] 31)).heap[F]? = some (.cells #[.int .i64 0, St [], St [], .slice none 0 0] 24) := blk_alloc (blk_alloc HX.out.2.1)
  have hq5 : ((w3.alloc (.cells #[.int .i64 kd, St tt, St ta, .slice A kids.length c] 24)).alloc (.cells #[.int .i64 0, .int .i64 0] 31)).heap[F + 1]? = some (.cells #[.int .i64 0, .int .i64 0] 31) := blk_alloc (blk_alloc HX.out.2.2.1)
  have hx5 : ((w3.alloc (.cells #[.int .i64 kd, St tt, St ta, .slice A kids.length c] 24)).alloc (.cells #[.int .i64 0, .int .i64 0] 31)).heap[X]? = some (.cells #[.int .i64 kd, St tt, St ta, .slice A kids.length c] 24) := by rw [← hX]; exact blk_alloc (blk_new _ _)
  have hy5 : ((w3.alloc (.cells #[.int .i64 kd, St tt, St ta, .slice A kids.length c] 24)).alloc (.cells #[.int .i64 0, .int .i64 0] 31)).heap[X + 1]? = some (.cells #[.int .i64 0, .int .i64 0] 31) := by rw [← hX]; exact blk_new1 _ _ _
  clear z0 z1 z2 z3 y0 y1 y2 y3 q0 q1 qf0 qf1
  obtain ⟨z0, z1, z2, z3, y0, y1, y2, y3⟩ := cells4 hz5
  obtain ⟨q0, q1, qf0, qf1⟩ := cells2 hq5
  obtain ⟨x0, x1, x2, x3, xf0, xf1, xf2, xf3⟩ := cells4 hx5
  obtain ⟨v0, v1, vf0, vf1⟩ := cells2 hy5
  have H5 := Lib.hid (And.intro hz5 hq5)
  clear hz5 hq5 hx5 hy5 hX
  go_wp2_with fail
  refine (hT _).mono ?_
  rintro e w6 ⟨rfl, rfl⟩
  go_wp2_with fail
  obtain ⟨PP, hPP⟩ : ∃ PP : Int, PP = (s.length : Int) - ((z.length : Int) + 1) := ⟨_, rfl⟩
  rw [← hPP]
  have hd := blk_set_ne (a := ⟨F + 1, 1, none⟩) (v := .int .i64 PP) (blk_set_ne (a := ⟨F + 1, 0, none⟩) (v := .int .i64 3) (blk_set (i := 3) (v := .slice none 0 0) (blk_set (i := 2) (v := St []) (blk_set (i := 1) (v := St []) (blk_set (i := 0) (v := .int .i64 0) H5.out.1)))) (by simp)) (by simp)
  have hq := blk_set (i := 1) (v := .int .i64 PP) (blk_set (i := 0) (v := .int .i64 3) (blk_set_ne (a := ⟨F, 3, none⟩) (v := .slice none 0 0) (blk_set_ne (a := ⟨F, 2, none⟩) (v := St []) (blk_set_ne (a := ⟨F, 1, none⟩) (v := St []) (blk_set_ne (a := ⟨F, 0, none⟩) (v := .int .i64 0) H5.out.2 (by simp)) (by simp)) (by simp)) (by simp)))
  have e0 := blk_cell hd 0
  have e1 := blk_cell hd 1
  have e2 := blk_cell hd 2
  have e3 := blk_cell hd 3
  have e4 := blk_cell hq 0
  have e5 := blk_cell hq 1
  exact bodyPost_ret (v := .tuple #[.agg #[.int .i64 0, St [], St [], .slice none 0 0], Ft 3 PP]) (by simp [results, Tryz.results13, go_sem, e0, e1, e2, e3, e4, e5]) rfl
    ⟨by rw [hPP], by rw [hF]; exact (((((((HX.out.2.2.2.1.alloc (by have := HX.out.2.2.2.1.size; omega) _).alloc (by have := HX.out.2.2.2.1.size; simp; omega) _).setCell (Nat.le_refl _) _).setCell (Nat.le_refl _) _).setCell (Nat.le_refl _) _).setCell (Nat.le_refl _) _).setCell (Nat.le_succ _) _).setCell (Nat.le_succ _) _⟩
end Go.Proofs.YtbmonfcahhhdeaaGreatDoor
