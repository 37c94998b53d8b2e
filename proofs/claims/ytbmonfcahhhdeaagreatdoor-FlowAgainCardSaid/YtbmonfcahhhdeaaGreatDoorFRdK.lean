/- The walk of the reader's value: a star. -/
import Derived.Test.YtbmonfcahhhdeaaGreatDoorFRdJ
set_option linter.unusedVariables false
set_option linter.unusedSimpArgs false
namespace Go.Proofs.YtbmonfcahhhdeaaGreatDoor
open Go.RowKit

theorem FRd.starR_s (r : FRd) (p : Pr) : (r.starR p).s = r.s.tail := by
  unfold FRd.starR FRd.dropS
  rw [List.drop_one]
  show (if _ then r else r.stray).s.tail = _
  split
  · rfl
  · rw [FRd.stray_s]
theorem star_cases (anc : Bs) (tag tagAt : Int) : (anc = [] ∧ tag = 0 ∧ tagAt = 0) ∨ ((∃ x y, anc = x :: y) ∨ (anc = [] ∧ (tag == 0) = false) ∨ (anc = [] ∧ tag = 0 ∧ (tagAt == 0) = false)) := by
  rcases anc with _ | ⟨x, y⟩
  · by_cases h1 : tag = 0
    · by_cases h2 : tagAt = 0
      · exact .inl ⟨rfl, h1, h2⟩
      · exact .inr (.inr (.inr ⟨rfl, h1, by simpa using h2⟩))
    · exact .inr (.inr (.inl ⟨rfl, by simpa using h1⟩))
  · exact .inr (.inl ⟨x, y, rfl⟩)

set_option maxHeartbeats 16000000 in
set_option maxRecDepth 100000 in
theorem value_star (g : Nat) (r : FRd) (f : Bool) (deep : Int) (anc : Bs) (tag tagAt : Int) (r1 : FRd) (hpr : FRd.props f 4 (r.skip 0) Pr.no = some (⟨anc, tag, tagAt⟩, r1)) (ok : r.Ok) (W : Int) (hW : r.whole = W) (hWs : W < 4294967296) (G : Nat) (hGg : G ≤ g) (w : World) (he : Env G w) (h : r.At w g) (n42 : r1.next [42] = true) :
    Calls Tryz.prog 30 #[.pointer (some ⟨g, 0, none⟩), .bool f, .int .i64 deep] w fun e w' => ∃ v, e = .returned v ∧ Rep1 w' (fun b => w.heap.size ≤ b) (.mk 7 [] (wordL (r1.starR ⟨anc, tag, tagAt⟩).s lettersBs) []) v ∧ (r1.starR ⟨anc, tag, tagAt⟩).name.At w' g ∧ Fr (· = g) w.heap.size w w' := by
  have hlt := blk_lt h
  have ok1 := ((FRd.sub_skip r 0).trans (FRd.sub_props f 4 _ _ _ _ hpr)).ok ok
  have hW1 : r1.whole = W := by rw [((FRd.sub_skip r 0).trans (FRd.sub_props f 4 _ _ _ _ hpr)).1]; exact hW
  have hSk := fun w' h' => frd_skip g r 0 (Nat.zero_le _) w' h'
  have hPr := fun w' h' => frd_props g (r.skip 0) f _ _ hpr w' h' ((FRd.sub_skip r 0).ok ok)
  have hNx := fun cs w' h' => frd_next g r1 cs w' h'
  have HE := Lib.hid he
  have hEn : ∀ w', Fr (· = g) w.heap.size w w' → Env G w' := fun w' hf => HE.out.fr hf HE.out.le (fun k hk => by subst hk; exact hGg)
  have HEN := Lib.hid hEn
  have HA0 := Lib.hid (show r.At (w.alloc (.cells #[.int .i64 0, St [], St [], .slice none 0 0] 24)) g from blk_alloc h)
  obtain ⟨F, hF⟩ : ∃ F, w.heap.size = F := ⟨_, rfl⟩
  have HZ0 : Hid ((w.alloc (.cells #[.int .i64 0, St [], St [], .slice none 0 0] 24)).heap[F]? = some (.cells #[.int .i64 0, St [], St [], .slice none 0 0] 24) ∧ Fr (· = g) w.heap.size w (w.alloc (.cells #[.int .i64 0, St [], St [], .slice none 0 0] 24))) := ⟨by rw [← hF]; exact blk_new _ _, (Fr.refl _ _ _).alloc (Nat.le_refl _) _⟩
  have hFg : F ≠ g := by omega
  clear hEn he h hpr
  have hs1 : 1 ≤ r1.s.length := by
    unfold FRd.next at n42
    cases hr : r1.s with
    | nil => rw [hr] at n42; simp at n42
    | cons a b => simp
  have hd1 := fun w' => slice_drop r1.s 1 hs1 w'
  rw [List.drop_one] at hd1
  have okT : (r1.starR ⟨anc, tag, tagAt⟩).Ok := by
    unfold FRd.starR
    refine FRd.dropS_ok ?_ 1
    split
    · exact ok1
    · exact FRd.stray_ok ok1
  have hNm := fun w' h' => frd_name g (r1.starR ⟨anc, tag, tagAt⟩) w' h' okT
  have hSt := fun w' h' => frd_stray g r1 w' h' ok1
  have hrs : (anc = [] ∧ tag = 0 ∧ tagAt = 0) → r1.starR ⟨anc, tag, tagAt⟩ = r1.dropS 1 := fun h => by unfold FRd.starR; rw [if_pos h]
  have hrs2 : ¬ (anc = [] ∧ tag = 0 ∧ tagAt = 0) → r1.starR ⟨anc, tag, tagAt⟩ = r1.stray.dropS 1 := fun h => by unfold FRd.starR; rw [if_neg h]
  generalize r1.starR ⟨anc, tag, tagAt⟩ = rT at okT hNm hrs hrs2 ⊢
  generalize wordL rT.s lettersBs = wd at hNm ⊢
  clear okT ok1 hW1 hWs ok hW
  rcases star_cases anc tag tagAt with hz | ⟨x, y, rfl⟩ | ⟨rfl, hb⟩ | ⟨rfl, rfl, hb⟩
  · obtain ⟨rfl, rfl, rfl⟩ := hz
    have hT := hrs ⟨rfl, rfl, rfl⟩
    go_enter Tryz.func30, Tryz.ntmps30
    go_wp2_with fail
    refine (hSk _ (by exact HA0.out)).mono ?_
    rintro e w1 ⟨rfl, h1, f1⟩
    have hz1 := blk_fr HZ0.out.1 f1 (blk_lt HZ0.out.1) hFg
    have f1' := HZ0.out.2.call f1 HZ0.out.2.size (fun _ _ h => h)
    go_wp2_with fail
    refine (hPr _ h1).mono ?_
    rintro e w2 ⟨rfl, h2, f2⟩
    have hz2 := blk_fr hz1 f2 (blk_lt hz1) hFg
    have f2' := f1'.call f2 f1'.size (fun _ _ h => h)
    obtain ⟨H, hH⟩ : ∃ H, w2.heap.size = H := ⟨_, rfl⟩
    have hFH : F < H := by rw [← hH]; exact blk_lt hz2
    have h3 : r1.At (w2.alloc (.cells #[St [], .int .i64 0, .int .i64 0] 89)) g := blk_alloc h2
    have hz3 : (w2.alloc (.cells #[St [], .int .i64 0, .int .i64 0] 89)).heap[F]? = some (.cells #[.int .i64 0, St [], St [], .slice none 0 0] 24) := blk_alloc hz2
    have hp3 : (w2.alloc (.cells #[St [], .int .i64 0, .int .i64 0] 89)).heap[H]? = some (.cells #[St [], .int .i64 0, .int .i64 0] 89) := by rw [← hH]; exact blk_new _ _
    have f3 : Fr (· = g) w.heap.size w (w2.alloc (.cells #[St [], .int .i64 0, .int .i64 0] 89)) := f2'.alloc f2'.size _
    have hHg : H ≠ g := by omega
    have hN42 := hNx [42] _ h3
    have hN91 := hNx [91] _ h3
    have hN123 := hNx [123] _ h3
    obtain ⟨a0, a1, a2, a3, i0, i1, i2, i3⟩ := h3.parts
    obtain ⟨z0, z1, z2, z3, y0, y1, y2, y3⟩ := cells4 hz3
    obtain ⟨p0, p1, p2, q0, q1, q2⟩ := cells3 hp3
    have H3 := Lib.hid (And.intro h3 (And.intro hz3 (And.intro hp3 f3)))
    clear h1 f1 hz1 f1' h2 f2 hz2 f2' h3 hz3 hp3 f3 hNx
    rw [n42] at hN42
    clear n42
    go_wp2_with fail
    refine (hN42).mono ?_
    rintro e w4 ⟨rfl, rfl⟩
    have h6 : rT.At ((w2.alloc (.cells #[St [], .int .i64 0, .int .i64 0] 89)).setCell ⟨g, 1, none⟩ (St r1.s.tail)) g := by
      rw [hT]; unfold FRd.dropS; rw [List.drop_one]; exact H3.out.1.set1 _
    have hz6 := blk_set_ne H3.out.2.1 (a := ⟨g, 1, none⟩) (v := St r1.s.tail) hFg
    have f6 := H3.out.2.2.2.own 1 (St r1.s.tail)
    go_wp2_with fail
    refine (hNm _ (by exact h6)).mono ?_
    rintro e w7 ⟨rfl, h7, f7⟩
    have hz7 := blk_fr hz6 f7 (blk_lt hz6) hFg
    have f7' := f6.call f7 f6.size (fun _ _ h => h)
    clear z0 z1 z2 z3 y0 y1 y2 y3
    obtain ⟨z0, z1, z2, z3, y0, y1, y2, y3⟩ := cells4 hz7
    have H7 := Lib.hid (And.intro h7 (And.intro hz7 f7'))
    clear h7 f7 hz7 f7' h6 hz6 f6
    go_wp2_with fail
    have hd := blk_set (i := 3) (v := .slice none 0 0) (blk_set (i := 2) (v := St wd) (blk_set (i := 1) (v := St []) (blk_set (i := 0) (v := .int .i64 7) H7.out.2.1)))
    have e0 := blk_cell hd 0
    have e1 := blk_cell hd 1
    have e2 := blk_cell hd 2
    have e3 := blk_cell hd 3
    exact bodyPost_ret (v := .agg #[.int .i64 7, St [], St wd, .slice none 0 0]) (by simp [results, Tryz.results30, go_sem, e0, e1, e2, e3]) rfl
      ⟨_, rfl, rep_leaf _ _ _ _ _, blk_set_ne (blk_set_ne (blk_set_ne (blk_set_ne H7.out.1 (by simp; omega)) (by simp; omega)) (by simp; omega)) (by simp; omega), (((H7.out.2.2.setCell (.inl (by simp; omega)) _).setCell (.inl (by simp; omega)) _).setCell (.inl (by simp; omega)) _).setCell (.inl (by simp; omega)) _⟩
  · have hT := hrs2 (fun h => by cases h.1)
    go_enter Tryz.func30, Tryz.ntmps30
    go_wp2_with fail
    refine (hSk _ (by exact HA0.out)).mono ?_
    rintro e w1 ⟨rfl, h1, f1⟩
    have hz1 := blk_fr HZ0.out.1 f1 (blk_lt HZ0.out.1) hFg
    have f1' := HZ0.out.2.call f1 HZ0.out.2.size (fun _ _ h => h)
    go_wp2_with fail
    refine (hPr _ h1).mono ?_
    rintro e w2 ⟨rfl, h2, f2⟩
    have hz2 := blk_fr hz1 f2 (blk_lt hz1) hFg
    have f2' := f1'.call f2 f1'.size (fun _ _ h => h)
    obtain ⟨H, hH⟩ : ∃ H, w2.heap.size = H := ⟨_, rfl⟩
    have hFH : F < H := by rw [← hH]; exact blk_lt hz2
    have h3 : r1.At (w2.alloc (.cells #[St (x :: y), .int .i64 tag, .int .i64 tagAt] 89)) g := blk_alloc h2
    have hz3 : (w2.alloc (.cells #[St (x :: y), .int .i64 tag, .int .i64 tagAt] 89)).heap[F]? = some (.cells #[.int .i64 0, St [], St [], .slice none 0 0] 24) := blk_alloc hz2
    have hp3 : (w2.alloc (.cells #[St (x :: y), .int .i64 tag, .int .i64 tagAt] 89)).heap[H]? = some (.cells #[St (x :: y), .int .i64 tag, .int .i64 tagAt] 89) := by rw [← hH]; exact blk_new _ _
    have f3 : Fr (· = g) w.heap.size w (w2.alloc (.cells #[St (x :: y), .int .i64 tag, .int .i64 tagAt] 89)) := f2'.alloc f2'.size _
    have hHg : H ≠ g := by omega
    have hN42 := hNx [42] _ h3
    have hN91 := hNx [91] _ h3
    have hN123 := hNx [123] _ h3
    obtain ⟨a0, a1, a2, a3, i0, i1, i2, i3⟩ := h3.parts
    obtain ⟨z0, z1, z2, z3, y0, y1, y2, y3⟩ := cells4 hz3
    obtain ⟨p0, p1, p2, q0, q1, q2⟩ := cells3 hp3
    have H3 := Lib.hid (And.intro h3 (And.intro hz3 (And.intro hp3 f3)))
    clear h1 f1 hz1 f1' h2 f2 hz2 f2' h3 hz3 hp3 f3 hNx
    rw [n42] at hN42
    clear n42
    go_wp2_with fail
    refine (hN42).mono ?_
    rintro e w4 ⟨rfl, rfl⟩
    go_wp2_with fail
    refine (hSt _ (by exact H3.out.1)).mono ?_
    rintro e w5 ⟨rfl, h5, f5⟩
    have hz5 := blk_fr H3.out.2.1 f5 (blk_lt H3.out.2.1) hFg
    have f5' := H3.out.2.2.2.call f5 H3.out.2.2.2.size (fun _ _ h => h)
    clear a0 a1 a2 a3 i0 i1 i2 i3
    obtain ⟨a0, a1, a2, a3, i0, i1, i2, i3⟩ := h5.parts
    rw [FRd.stray_s] at a1
    have h6 : rT.At (w5.setCell ⟨g, 1, none⟩ (St r1.s.tail)) g := by
      rw [hT]; unfold FRd.dropS; rw [List.drop_one, FRd.stray_s]; exact h5.set1 _
    have hz6 := blk_set_ne hz5 (a := ⟨g, 1, none⟩) (v := St r1.s.tail) hFg
    have f6 := f5'.own 1 (St r1.s.tail)
    clear h5 f5 hz5 f5'
    go_wp2_with fail
    refine (hNm _ (by exact h6)).mono ?_
    rintro e w7 ⟨rfl, h7, f7⟩
    have hz7 := blk_fr hz6 f7 (blk_lt hz6) hFg
    have f7' := f6.call f7 f6.size (fun _ _ h => h)
    clear z0 z1 z2 z3 y0 y1 y2 y3
    obtain ⟨z0, z1, z2, z3, y0, y1, y2, y3⟩ := cells4 hz7
    have H7 := Lib.hid (And.intro h7 (And.intro hz7 f7'))
    clear h7 f7 hz7 f7' h6 hz6 f6
    go_wp2_with fail
    have hd := blk_set (i := 3) (v := .slice none 0 0) (blk_set (i := 2) (v := St wd) (blk_set (i := 1) (v := St []) (blk_set (i := 0) (v := .int .i64 7) H7.out.2.1)))
    have e0 := blk_cell hd 0
    have e1 := blk_cell hd 1
    have e2 := blk_cell hd 2
    have e3 := blk_cell hd 3
    exact bodyPost_ret (v := .agg #[.int .i64 7, St [], St wd, .slice none 0 0]) (by simp [results, Tryz.results30, go_sem, e0, e1, e2, e3]) rfl
      ⟨_, rfl, rep_leaf _ _ _ _ _, blk_set_ne (blk_set_ne (blk_set_ne (blk_set_ne H7.out.1 (by simp; omega)) (by simp; omega)) (by simp; omega)) (by simp; omega), (((H7.out.2.2.setCell (.inl (by simp; omega)) _).setCell (.inl (by simp; omega)) _).setCell (.inl (by simp; omega)) _).setCell (.inl (by simp; omega)) _⟩
  · have hT := hrs2 (fun h => by rw [h.2.1] at hb; cases hb)
    go_enter Tryz.func30, Tryz.ntmps30
    go_wp2_with fail
    refine (hSk _ (by exact HA0.out)).mono ?_
    rintro e w1 ⟨rfl, h1, f1⟩
    have hz1 := blk_fr HZ0.out.1 f1 (blk_lt HZ0.out.1) hFg
    have f1' := HZ0.out.2.call f1 HZ0.out.2.size (fun _ _ h => h)
    go_wp2_with fail
    refine (hPr _ h1).mono ?_
    rintro e w2 ⟨rfl, h2, f2⟩
    have hz2 := blk_fr hz1 f2 (blk_lt hz1) hFg
    have f2' := f1'.call f2 f1'.size (fun _ _ h => h)
    obtain ⟨H, hH⟩ : ∃ H, w2.heap.size = H := ⟨_, rfl⟩
    have hFH : F < H := by rw [← hH]; exact blk_lt hz2
    have h3 : r1.At (w2.alloc (.cells #[St [], .int .i64 tag, .int .i64 tagAt] 89)) g := blk_alloc h2
    have hz3 : (w2.alloc (.cells #[St [], .int .i64 tag, .int .i64 tagAt] 89)).heap[F]? = some (.cells #[.int .i64 0, St [], St [], .slice none 0 0] 24) := blk_alloc hz2
    have hp3 : (w2.alloc (.cells #[St [], .int .i64 tag, .int .i64 tagAt] 89)).heap[H]? = some (.cells #[St [], .int .i64 tag, .int .i64 tagAt] 89) := by rw [← hH]; exact blk_new _ _
    have f3 : Fr (· = g) w.heap.size w (w2.alloc (.cells #[St [], .int .i64 tag, .int .i64 tagAt] 89)) := f2'.alloc f2'.size _
    have hHg : H ≠ g := by omega
    have hN42 := hNx [42] _ h3
    have hN91 := hNx [91] _ h3
    have hN123 := hNx [123] _ h3
    obtain ⟨a0, a1, a2, a3, i0, i1, i2, i3⟩ := h3.parts
    obtain ⟨z0, z1, z2, z3, y0, y1, y2, y3⟩ := cells4 hz3
    obtain ⟨p0, p1, p2, q0, q1, q2⟩ := cells3 hp3
    have H3 := Lib.hid (And.intro h3 (And.intro hz3 (And.intro hp3 f3)))
    clear h1 f1 hz1 f1' h2 f2 hz2 f2' h3 hz3 hp3 f3 hNx
    rw [n42] at hN42
    clear n42
    go_wp2_with fail
    refine (hN42).mono ?_
    rintro e w4 ⟨rfl, rfl⟩
    go_wp2_with fail
    refine (hSt _ (by exact H3.out.1)).mono ?_
    rintro e w5 ⟨rfl, h5, f5⟩
    have hz5 := blk_fr H3.out.2.1 f5 (blk_lt H3.out.2.1) hFg
    have f5' := H3.out.2.2.2.call f5 H3.out.2.2.2.size (fun _ _ h => h)
    clear a0 a1 a2 a3 i0 i1 i2 i3
    obtain ⟨a0, a1, a2, a3, i0, i1, i2, i3⟩ := h5.parts
    rw [FRd.stray_s] at a1
    have h6 : rT.At (w5.setCell ⟨g, 1, none⟩ (St r1.s.tail)) g := by
      rw [hT]; unfold FRd.dropS; rw [List.drop_one, FRd.stray_s]; exact h5.set1 _
    have hz6 := blk_set_ne hz5 (a := ⟨g, 1, none⟩) (v := St r1.s.tail) hFg
    have f6 := f5'.own 1 (St r1.s.tail)
    clear h5 f5 hz5 f5'
    go_wp2_with fail
    refine (hNm _ (by exact h6)).mono ?_
    rintro e w7 ⟨rfl, h7, f7⟩
    have hz7 := blk_fr hz6 f7 (blk_lt hz6) hFg
    have f7' := f6.call f7 f6.size (fun _ _ h => h)
    clear z0 z1 z2 z3 y0 y1 y2 y3
    obtain ⟨z0, z1, z2, z3, y0, y1, y2, y3⟩ := cells4 hz7
    have H7 := Lib.hid (And.intro h7 (And.intro hz7 f7'))
    clear h7 f7 hz7 f7' h6 hz6 f6
    go_wp2_with fail
    have hd := blk_set (i := 3) (v := .slice none 0 0) (blk_set (i := 2) (v := St wd) (blk_set (i := 1) (v := St []) (blk_set (i := 0) (v := .int .i64 7) H7.out.2.1)))
    have e0 := blk_cell hd 0
    have e1 := blk_cell hd 1
    have e2 := blk_cell hd 2
    have e3 := blk_cell hd 3
    exact bodyPost_ret (v := .agg #[.int .i64 7, St [], St wd, .slice none 0 0]) (by simp [results, Tryz.results30, go_sem, e0, e1, e2, e3]) rfl
      ⟨_, rfl, rep_leaf _ _ _ _ _, blk_set_ne (blk_set_ne (blk_set_ne (blk_set_ne H7.out.1 (by simp; omega)) (by simp; omega)) (by simp; omega)) (by simp; omega), (((H7.out.2.2.setCell (.inl (by simp; omega)) _).setCell (.inl (by simp; omega)) _).setCell (.inl (by simp; omega)) _).setCell (.inl (by simp; omega)) _⟩
  · have hT := hrs2 (fun h => by rw [h.2.2] at hb; cases hb)
    go_enter Tryz.func30, Tryz.ntmps30
    go_wp2_with fail
    refine (hSk _ (by exact HA0.out)).mono ?_
    rintro e w1 ⟨rfl, h1, f1⟩
    have hz1 := blk_fr HZ0.out.1 f1 (blk_lt HZ0.out.1) hFg
    have f1' := HZ0.out.2.call f1 HZ0.out.2.size (fun _ _ h => h)
    go_wp2_with fail
    refine (hPr _ h1).mono ?_
    rintro e w2 ⟨rfl, h2, f2⟩
    have hz2 := blk_fr hz1 f2 (blk_lt hz1) hFg
    have f2' := f1'.call f2 f1'.size (fun _ _ h => h)
    obtain ⟨H, hH⟩ : ∃ H, w2.heap.size = H := ⟨_, rfl⟩
    have hFH : F < H := by rw [← hH]; exact blk_lt hz2
    have h3 : r1.At (w2.alloc (.cells #[St [], .int .i64 0, .int .i64 tagAt] 89)) g := blk_alloc h2
    have hz3 : (w2.alloc (.cells #[St [], .int .i64 0, .int .i64 tagAt] 89)).heap[F]? = some (.cells #[.int .i64 0, St [], St [], .slice none 0 0] 24) := blk_alloc hz2
    have hp3 : (w2.alloc (.cells #[St [], .int .i64 0, .int .i64 tagAt] 89)).heap[H]? = some (.cells #[St [], .int .i64 0, .int .i64 tagAt] 89) := by rw [← hH]; exact blk_new _ _
    have f3 : Fr (· = g) w.heap.size w (w2.alloc (.cells #[St [], .int .i64 0, .int .i64 tagAt] 89)) := f2'.alloc f2'.size _
    have hHg : H ≠ g := by omega
    have hN42 := hNx [42] _ h3
    have hN91 := hNx [91] _ h3
    have hN123 := hNx [123] _ h3
    obtain ⟨a0, a1, a2, a3, i0, i1, i2, i3⟩ := h3.parts
    obtain ⟨z0, z1, z2, z3, y0, y1, y2, y3⟩ := cells4 hz3
    obtain ⟨p0, p1, p2, q0, q1, q2⟩ := cells3 hp3
    have H3 := Lib.hid (And.intro h3 (And.intro hz3 (And.intro hp3 f3)))
    clear h1 f1 hz1 f1' h2 f2 hz2 f2' h3 hz3 hp3 f3 hNx
    rw [n42] at hN42
    clear n42
    go_wp2_with fail
    refine (hN42).mono ?_
    rintro e w4 ⟨rfl, rfl⟩
    go_wp2_with fail
    refine (hSt _ (by exact H3.out.1)).mono ?_
    rintro e w5 ⟨rfl, h5, f5⟩
    have hz5 := blk_fr H3.out.2.1 f5 (blk_lt H3.out.2.1) hFg
    have f5' := H3.out.2.2.2.call f5 H3.out.2.2.2.size (fun _ _ h => h)
    clear a0 a1 a2 a3 i0 i1 i2 i3
    obtain ⟨a0, a1, a2, a3, i0, i1, i2, i3⟩ := h5.parts
    rw [FRd.stray_s] at a1
    have h6 : rT.At (w5.setCell ⟨g, 1, none⟩ (St r1.s.tail)) g := by
      rw [hT]; unfold FRd.dropS; rw [List.drop_one, FRd.stray_s]; exact h5.set1 _
    have hz6 := blk_set_ne hz5 (a := ⟨g, 1, none⟩) (v := St r1.s.tail) hFg
    have f6 := f5'.own 1 (St r1.s.tail)
    clear h5 f5 hz5 f5'
    go_wp2_with fail
    refine (hNm _ (by exact h6)).mono ?_
    rintro e w7 ⟨rfl, h7, f7⟩
    have hz7 := blk_fr hz6 f7 (blk_lt hz6) hFg
    have f7' := f6.call f7 f6.size (fun _ _ h => h)
    clear z0 z1 z2 z3 y0 y1 y2 y3
    obtain ⟨z0, z1, z2, z3, y0, y1, y2, y3⟩ := cells4 hz7
    have H7 := Lib.hid (And.intro h7 (And.intro hz7 f7'))
    clear h7 f7 hz7 f7' h6 hz6 f6
    go_wp2_with fail
    have hd := blk_set (i := 3) (v := .slice none 0 0) (blk_set (i := 2) (v := St wd) (blk_set (i := 1) (v := St []) (blk_set (i := 0) (v := .int .i64 7) H7.out.2.1)))
    have e0 := blk_cell hd 0
    have e1 := blk_cell hd 1
    have e2 := blk_cell hd 2
    have e3 := blk_cell hd 3
    exact bodyPost_ret (v := .agg #[.int .i64 7, St [], St wd, .slice none 0 0]) (by simp [results, Tryz.results30, go_sem, e0, e1, e2, e3]) rfl
      ⟨_, rfl, rep_leaf _ _ _ _ _, blk_set_ne (blk_set_ne (blk_set_ne (blk_set_ne H7.out.1 (by simp; omega)) (by simp; omega)) (by simp; omega)) (by simp; omega), (((H7.out.2.2.setCell (.inl (by simp; omega)) _).setCell (.inl (by simp; omega)) _).setCell (.inl (by simp; omega)) _).setCell (.inl (by simp; omega)) _⟩
end Go.Proofs.YtbmonfcahhhdeaaGreatDoor
