/- The walk of the reader's value: a bracket. -/
import Derived.Test.YtbmonfcahhhdeaaGreatDoorFRdJ
set_option linter.unusedVariables false
set_option linter.unusedSimpArgs false
namespace Go.Proofs.YtbmonfcahhhdeaaGreatDoor
open Go.RowKit

set_option maxHeartbeats 16000000 in
set_option maxRecDepth 100000 in
theorem value_list_map (g : Nat) (r : FRd) (f : Bool) (deep : Int) (anc : Bs) (tag tagAt : Int) (r1 : FRd) (hpr : FRd.props f 4 (r.skip 0) Pr.no = some (⟨anc, tag, tagAt⟩, r1)) (ok : r.Ok) (W : Int) (hW : r.whole = W) (hWs : W < 4294967296) (G : Nat) (hGg : G ≤ g) (w : World) (he : Env G w) (h : r.At w g) (n42 : r1.next [42] = false) (n91 : r1.next [91] = false) (n123 : r1.next [123] = true) (hd0 : 0 ≤ deep) (hd1 : deep < 64) (part : FRd → Option (List T × FRd)) (hsub : ∀ r t r', part r = some (t, r') → r.Sub r') (N : Nat) (hN : N ≤ 4294967296) (hP : PartSpec 64 part g W (deep + 1) G) (l : List T) (r2 : FRd) (hm : FRd.parts part 125 N r1 = some (l, r2)) :
    Calls Tryz.prog 30 #[.pointer (some ⟨g, 0, none⟩), .bool f, .int .i64 deep] w fun e w' => ∃ v, e = .returned v ∧ Rep1 w' (fun b => w.heap.size ≤ b) (.mk 6 [] anc l) v ∧ (if tag ≠ 0 ∧ tag ≠ 6 then r2.wrong 12 tagAt else r2).At w' g ∧ Fr (· = g) w.heap.size w w' := by
  have hlt := blk_lt h
  have ok1 := ((FRd.sub_skip r 0).trans (FRd.sub_props f 4 _ _ _ _ hpr)).ok ok
  have hW1 : r1.whole = W := by rw [((FRd.sub_skip r 0).trans (FRd.sub_props f 4 _ _ _ _ hpr)).1]; exact hW
  have hSk := fun w' h' => frd_skip g r 0 (Nat.zero_le _) w' h'
  have hPr := fun w' h' => frd_props g (r.skip 0) f _ _ hpr w' h' ((FRd.sub_skip r 0).ok ok)
  have hNx := fun cs w' h' => frd_next g r1 cs w' h'
  have HE := Lib.hid he
  have hEn : ∀ w', Fr (· = g) w.heap.size w w' → Env G w' := fun w' hf => HE.out.fr hf HE.out.le (fun k hk => by subst hk; exact hGg)
  have HEN := Lib.hid hEn
  have HA0 := Lib.hid (show r.At (w.alloc (.cells #[.int .i64 0, St [], St [], .slice none 0 0] 24)) g from blk_alloc h)
  obtain ⟨F, hF⟩ : ∃ F, w.heap.size = F := ⟨_, rfl⟩
  have HZ0 : Hid ((w.alloc (.cells #[.int .i64 0, St [], St [], .slice none 0 0] 24)).heap[F]? = some (.cells #[.int .i64 0, St [], St [], .slice none 0 0] 24) ∧ Fr (· = g) w.heap.size w (w.alloc (.cells #[.int .i64 0, St [], St [], .slice none 0 0] 24))) := ⟨by rw [← hF]; exact blk_new _ _, (Fr.refl _ _ _).alloc (Nat.le_refl _) _⟩
  have hFg : F ≠ g := by omega
  clear hEn he h hpr
  have hs1 : 1 ≤ r1.s.length := by
    unfold FRd.next at n123
    cases hr : r1.s with
    | nil => rw [hr] at n123; simp at n123
    | cons a b => simp
  have hPt := fun w' he' h' => frd_parts 64 (.inr rfl) part hsub 125 N hN (deep + 1) W g G hGg hP r1 hs1 l r2 hm w' he' h' ok1 hW1
  have hWr := fun w' h' => frd_wrong g r2 12 tagAt w' h'
  have hdB : (deep == 64) = false := by simp; omega
  have hdw : IntKind.i64.wrap (deep + 1) = deep + 1 := by rw [IntKind.wrap_i64]; omega
  have hdw2 : wrap64 (deep + 1) = deep + 1 := by unfold wrap64; omega
  have htc : (tag = 0 ∧ (if tag ≠ 0 ∧ tag ≠ 6 then r2.wrong 12 tagAt else r2) = r2) ∨ (tag = 6 ∧ (if tag ≠ 0 ∧ tag ≠ 6 then r2.wrong 12 tagAt else r2) = r2) ∨ ((tag != 0) = true ∧ (tag != 6) = true ∧ (if tag ≠ 0 ∧ tag ≠ 6 then r2.wrong 12 tagAt else r2) = r2.wrong 12 tagAt) := by
    by_cases h0 : tag = 0
    · exact .inl ⟨h0, if_neg (fun h => h.1 h0)⟩
    by_cases h5 : tag = 6
    · exact .inr (.inl ⟨h5, if_neg (fun h => h.2 h5)⟩)
    · exact .inr (.inr ⟨by simpa using h0, by simpa using h5, if_pos ⟨h0, h5⟩⟩)
  generalize (if tag ≠ 0 ∧ tag ≠ 6 then r2.wrong 12 tagAt else r2) = rE at htc ⊢
  clear ok1 hW1 hWs ok hW hP hm hsub hs1
  rcases htc with ⟨rfl, rfl⟩ | ⟨rfl, rfl⟩ | ⟨ht0, ht5, rfl⟩
  · go_enter Tryz.func30, Tryz.ntmps30
    go_wp2_with fail
    refine (hSk _ (by exact HA0.out)).mono ?_
    rintro e w1 ⟨rfl, h1, f1⟩
    have hz1 := blk_fr HZ0.out.1 f1 (blk_lt HZ0.out.1) hFg
    have f1' := HZ0.out.2.call f1 HZ0.out.2.size (fun _ _ h => h)
    go_wp2_with fail
    refine (hPr _ h1).mono ?_
    rintro e w2 ⟨rfl, h2, f2⟩
    have hz2 := blk_fr hz1 f2 (blk_lt hz1) hFg
    have f2' := f1'.call f2 f1'.size (fun _ _ h => h)
    obtain ⟨H, hH⟩ : ∃ H, w2.heap.size = H := ⟨_, rfl⟩
    have hFH : F < H := by rw [← hH]; exact blk_lt hz2
    have h3 : r1.At (w2.alloc (.cells #[St anc, .int .i64 0, .int .i64 tagAt] 89)) g := blk_alloc h2
    have hz3 : (w2.alloc (.cells #[St anc, .int .i64 0, .int .i64 tagAt] 89)).heap[F]? = some (.cells #[.int .i64 0, St [], St [], .slice none 0 0] 24) := blk_alloc hz2
    have hp3 : (w2.alloc (.cells #[St anc, .int .i64 0, .int .i64 tagAt] 89)).heap[H]? = some (.cells #[St anc, .int .i64 0, .int .i64 tagAt] 89) := by rw [← hH]; exact blk_new _ _
    have f3 : Fr (· = g) w.heap.size w (w2.alloc (.cells #[St anc, .int .i64 0, .int .i64 tagAt] 89)) := f2'.alloc f2'.size _
    have hHg : H ≠ g := by omega
    have hN42 := hNx [42] _ h3
    have hN91 := hNx [91] _ h3
    have hN123 := hNx [123] _ h3
    obtain ⟨a0, a1, a2, a3, i0, i1, i2, i3⟩ := h3.parts
    obtain ⟨z0, z1, z2, z3, y0, y1, y2, y3⟩ := cells4 hz3
    obtain ⟨p0, p1, p2, q0, q1, q2⟩ := cells3 hp3
    have H3 := Lib.hid (And.intro h3 (And.intro hz3 (And.intro hp3 f3)))
    clear h1 f1 hz1 f1' h2 f2 hz2 f2' h3 hz3 hp3 f3 hNx
    rw [n42] at hN42
    rw [n91] at hN91
    rw [n123] at hN123
    clear n42 n91
    have he20 : Env G (w2.alloc (.cells #[St anc, .int .i64 0, .int .i64 tagAt] 89)).drew := HEN.out _ H3.out.2.2.2.drew
    have hp20 : (w2.alloc (.cells #[St anc, .int .i64 0, .int .i64 tagAt] 89)).drew.heap[H]? = some (.cells #[St anc, .int .i64 0, .int .i64 tagAt] 89) := H3.out.2.2.1
    have hz20 : (w2.alloc (.cells #[St anc, .int .i64 0, .int .i64 tagAt] 89)).drew.heap[F]? = some (.cells #[.int .i64 0, St [], St [], .slice none 0 0] 24) := H3.out.2.1
    obtain ⟨s0, s1, s2, t0, t1, t2⟩ := cells3 hp20
    have hBz : (w2.alloc (.cells #[St anc, .int .i64 0, .int .i64 tagAt] 89)).drew.heap.size = H + 1 := by show (w2.alloc _).heap.size = _; rw [World.size_alloc, hH]
    have H20 := Lib.hid (And.intro he20 (And.intro hp20 (And.intro hz20 hBz)))
    have he21 : Env G ((w2.alloc (.cells #[St anc, .int .i64 0, .int .i64 tagAt] 89)).alloc (.cells #[.int .i64 0, .string ⟨#[]⟩, .string ⟨#[]⟩, .slice none 0 0] 24)).drew := HEN.out _ (H3.out.2.2.2.alloc H3.out.2.2.2.size _).drew
    have h21 : r1.At ((w2.alloc (.cells #[St anc, .int .i64 0, .int .i64 tagAt] 89)).alloc (.cells #[.int .i64 0, .string ⟨#[]⟩, .string ⟨#[]⟩, .slice none 0 0] 24)).drew g := blk_alloc H3.out.1
    have hp21 : ((w2.alloc (.cells #[St anc, .int .i64 0, .int .i64 tagAt] 89)).alloc (.cells #[.int .i64 0, .string ⟨#[]⟩, .string ⟨#[]⟩, .slice none 0 0] 24)).drew.heap[H]? = some (.cells #[St anc, .int .i64 0, .int .i64 tagAt] 89) := blk_alloc H3.out.2.2.1
    have hz21 : ((w2.alloc (.cells #[St anc, .int .i64 0, .int .i64 tagAt] 89)).alloc (.cells #[.int .i64 0, .string ⟨#[]⟩, .string ⟨#[]⟩, .slice none 0 0] 24)).drew.heap[F]? = some (.cells #[.int .i64 0, St [], St [], .slice none 0 0] 24) := blk_alloc H3.out.2.1
    have hj21 : ((w2.alloc (.cells #[St anc, .int .i64 0, .int .i64 tagAt] 89)).alloc (.cells #[.int .i64 0, .string ⟨#[]⟩, .string ⟨#[]⟩, .slice none 0 0] 24)).drew.heap[H + 1]? = some (.cells #[.int .i64 0, St [], St [], .slice none 0 0] 24) := by
      have := blk_new1 w2 (.cells #[St anc, .int .i64 0, .int .i64 tagAt] 89) (.cells #[.int .i64 0, .string ⟨#[]⟩, .string ⟨#[]⟩, .slice none 0 0] 24)
      rw [hH] at this
      exact this
    have hB21 : ((w2.alloc (.cells #[St anc, .int .i64 0, .int .i64 tagAt] 89)).alloc (.cells #[.int .i64 0, .string ⟨#[]⟩, .string ⟨#[]⟩, .slice none 0 0] 24)).drew.heap.size = H + 2 := by show ((w2.alloc _).alloc _).heap.size = _; rw [World.size_alloc, World.size_alloc, hH]
    have f21 : Fr (· = g) w.heap.size w ((w2.alloc (.cells #[St anc, .int .i64 0, .int .i64 tagAt] 89)).alloc (.cells #[.int .i64 0, .string ⟨#[]⟩, .string ⟨#[]⟩, .slice none 0 0] 24)).drew := (H3.out.2.2.2.alloc H3.out.2.2.2.size _).drew
    obtain ⟨s0x, s1x, s2x, t0x, t1x, t2x⟩ := cells3 hp21
    have H21 := Lib.hid (And.intro he21 (And.intro hp21 (And.intro hz21 (And.intro hB21 (And.intro h21 (And.intro hj21 f21))))))
    have hJg1 : H + 1 ≠ g := by omega
    clear he20 hp20 hz20 hBz he21 h21 hp21 hz21 hj21 hB21 f21
    go_wp2_with fail
    refine (hN42).mono ?_
    rintro e w4 ⟨rfl, rfl⟩
    go_wp2_with fail
    refine (hN91).mono ?_
    rintro e w4 ⟨rfl, rfl⟩
    go_wp2_with fail
    refine (hN123).mono ?_
    rintro e w4 ⟨rfl, rfl⟩
    go_wp2_with fail
    go_region_with (first | (go_at_call 65; refine (hPt _ (by with_reducible exact H20.out.1) (by exact H3.out.1)).mono ?_; rintro x w9 ⟨v9, rfl, hrow9, h9, f9⟩; obtain ⟨A9, c9, rfl⟩ : ∃ A c, v9 = .slice A l.length c := (let ⟨xs, ho, _⟩ := hrow9; own_slice ho); obtain ⟨s0', s1', s2', t0', t1', t2'⟩ := cells3 (blk_fr H20.out.2.1 f9 (blk_lt H20.out.2.1) hHg); obtain ⟨s0y, s1y, s2y, t0y, t1y, t2y⟩ := cells3 (blk_alloc (x := .cells #[.int .i64 0, .string ⟨#[]⟩, .string ⟨#[]⟩, .slice none 0 0] 24) (blk_fr H20.out.2.1 f9 (blk_lt H20.out.2.1) hHg))) | (go_at_call 65; refine (hPt _ (by with_reducible exact H21.out.1) (by exact H21.out.2.2.2.2.1)).mono ?_; rintro x w9 ⟨v9, rfl, hrow9, h9, f9⟩; obtain ⟨A9, c9, rfl⟩ : ∃ A c, v9 = .slice A l.length c := (let ⟨xs, ho, _⟩ := hrow9; own_slice ho); obtain ⟨s0', s1', s2', t0', t1', t2'⟩ := cells3 (blk_fr H21.out.2.1 f9 (blk_lt H21.out.2.1) hHg); obtain ⟨m0', m1', m2', m3', n0', n1', n2', n3'⟩ := cells4 (blk_fr H21.out.2.2.2.2.2.1 f9 (blk_lt H21.out.2.2.2.2.2.1) hJg1)))
    · have hz9 := blk_fr H20.out.2.2.1 f9 (blk_lt H20.out.2.2.1) hFg
      have hp9 := blk_fr H20.out.2.1 f9 (blk_lt H20.out.2.1) hHg
      have f9' := H3.out.2.2.2.drew.call f9 H3.out.2.2.2.size (fun _ _ h => h)
      obtain ⟨J, hJ⟩ : ∃ J, w9.heap.size = J := ⟨_, rfl⟩
      have hJF : F < J := by rw [← hJ]; exact blk_lt hz9
      have hJH : H < J := by rw [← hJ]; exact blk_lt hp9
      have hJg : J ≠ g := by omega
      have hz10 : (w9.alloc (.cells #[.int .i64 6, St [], St anc, .slice A9 l.length c9] 24)).heap[F]? = some (.cells #[.int .i64 0, St [], St [], .slice none 0 0] 24) := blk_alloc hz9
      have hp10 : (w9.alloc (.cells #[.int .i64 6, St [], St anc, .slice A9 l.length c9] 24)).heap[H]? = some (.cells #[St anc, .int .i64 0, .int .i64 tagAt] 89) := blk_alloc hp9
      have h10 : rE.At (w9.alloc (.cells #[.int .i64 6, St [], St anc, .slice A9 l.length c9] 24)) g := blk_alloc h9
      have f10 : Fr (· = g) w.heap.size w (w9.alloc (.cells #[.int .i64 6, St [], St anc, .slice A9 l.length c9] 24)) := f9'.alloc f9'.size _
      have hj10 : (w9.alloc (.cells #[.int .i64 6, St [], St anc, .slice A9 l.length c9] 24)).heap[J]? = some (.cells #[.int .i64 6, St [], St anc, .slice A9 l.length c9] 24) := by rw [← hJ]; exact blk_new _ _
      have hrowK : ∀ w', (∀ b, b < w9.heap.size → H + 1 ≤ b → w'.heap[b]? = w9.heap[b]?) → Rep1 w' (fun b => w.heap.size ≤ b) (.mk 6 [] anc l) (.agg #[.int .i64 6, St [], St anc, .slice A9 l.length c9]) := fun w' hk => by
        rw [H20.out.2.2.2] at hrow9
        exact hrow9.tree (by omega) hk 6 [] anc
      obtain ⟨z0, z1, z2, z3, y0, y1, y2, y3⟩ := cells4 hz10
      obtain ⟨p0, p1, p2, q0, q1, q2⟩ := cells3 hp10
      obtain ⟨j0, j1, j2, j3, k0, k1, k2, k3⟩ := cells4 hj10
      obtain ⟨zz0, zz1, zz2, zz3, yy0, yy1, yy2, yy3⟩ := cells4 hz9
      have HR := Lib.hid hrowK
      have H9 := Lib.hid (And.intro hz9 (And.intro h9 f9'))
      have H10 := Lib.hid (And.intro h10 (And.intro hz10 (And.intro hj10 f10)))
      have HZ9 := Lib.hid (And.intro hz9 hp9)
      clear hz9 hp9 f9' hz10 hp10 h10 f10 hj10 h9 f9 hrow9 hrowK s0 s1 s2 t0 t1 t2 s0' s1' s2' t0' t1' t2'
      go_wp2_with fail
      have hd := blk_alloc (x := .cells #[.int .i64 6, St [], St anc, .slice A9 l.length c9] 24) (blk_set (i := 3) (v := .slice A9 l.length c9) (blk_set (i := 2) (v := St anc) (blk_set (i := 1) (v := St []) (blk_set (i := 0) (v := .int .i64 6) H9.out.1))))
      have e0 := blk_cell hd 0
      have e1 := blk_cell hd 1
      have e2 := blk_cell hd 2
      have e3 := blk_cell hd 3
      exact bodyPost_ret (v := .agg #[.int .i64 6, St [], St anc, .slice A9 l.length c9]) (by simp [results, Tryz.results30, go_sem, e0, e1, e2, e3]) rfl
        ⟨_, rfl, HR.out _ (fun b hb hBb => by rw [Below.heap_alloc _ _ _ (by simp; omega)]; (repeat rw [Below.heap_setCell _ _ _ _ (by simp; omega)])), blk_alloc (blk_set_ne (blk_set_ne (blk_set_ne (blk_set_ne H9.out.2.1 (by simp; omega)) (by simp; omega)) (by simp; omega)) (by simp; omega)), ((((H9.out.2.2.setCell (.inl (by simp; omega)) _).setCell (.inl (by simp; omega)) _).setCell (.inl (by simp; omega)) _).setCell (.inl (by simp; omega)) _).alloc (by have := H9.out.2.2.size; simp; omega) _⟩
    · have hz9 := blk_fr H21.out.2.2.1 f9 (blk_lt H21.out.2.2.1) hFg
      have hp9 := blk_fr H21.out.2.1 f9 (blk_lt H21.out.2.1) hHg
      have hj9 := blk_fr H21.out.2.2.2.2.2.1 f9 (blk_lt H21.out.2.2.2.2.2.1) hJg1
      have f9' := H21.out.2.2.2.2.2.2.call f9 H21.out.2.2.2.2.2.2.size (fun _ _ h => h)
      have hJg := hJg1
      have hz10 : ((((w9.setCell ⟨H + 1, 0, none⟩ (.int .i64 6)).setCell ⟨H + 1, 1, none⟩ (.string ⟨#[]⟩)).setCell ⟨H + 1, 2, none⟩ (St anc)).setCell ⟨H + 1, 3, none⟩ (.slice A9 l.length c9)).heap[F]? = some (.cells #[.int .i64 0, St [], St [], .slice none 0 0] 24) := blk_set_ne (blk_set_ne (blk_set_ne (blk_set_ne hz9 (by simp; omega)) (by simp; omega)) (by simp; omega)) (by simp; omega)
      have hp10 : ((((w9.setCell ⟨H + 1, 0, none⟩ (.int .i64 6)).setCell ⟨H + 1, 1, none⟩ (.string ⟨#[]⟩)).setCell ⟨H + 1, 2, none⟩ (St anc)).setCell ⟨H + 1, 3, none⟩ (.slice A9 l.length c9)).heap[H]? = some (.cells #[St anc, .int .i64 0, .int .i64 tagAt] 89) := blk_set_ne (blk_set_ne (blk_set_ne (blk_set_ne hp9 (by simp)) (by simp)) (by simp)) (by simp)
      have h10 : rE.At ((((w9.setCell ⟨H + 1, 0, none⟩ (.int .i64 6)).setCell ⟨H + 1, 1, none⟩ (.string ⟨#[]⟩)).setCell ⟨H + 1, 2, none⟩ (St anc)).setCell ⟨H + 1, 3, none⟩ (.slice A9 l.length c9)) g := blk_set_ne (blk_set_ne (blk_set_ne (blk_set_ne h9 (by simp; omega)) (by simp; omega)) (by simp; omega)) (by simp; omega)
      have f10 : Fr (· = g) w.heap.size w ((((w9.setCell ⟨H + 1, 0, none⟩ (.int .i64 6)).setCell ⟨H + 1, 1, none⟩ (.string ⟨#[]⟩)).setCell ⟨H + 1, 2, none⟩ (St anc)).setCell ⟨H + 1, 3, none⟩ (.slice A9 l.length c9)) := (((f9'.setCell (.inl (by simp; omega)) _).setCell (.inl (by simp; omega)) _).setCell (.inl (by simp; omega)) _).setCell (.inl (by simp; omega)) _
      have hj10 : ((((w9.setCell ⟨H + 1, 0, none⟩ (.int .i64 6)).setCell ⟨H + 1, 1, none⟩ (.string ⟨#[]⟩)).setCell ⟨H + 1, 2, none⟩ (St anc)).setCell ⟨H + 1, 3, none⟩ (.slice A9 l.length c9)).heap[H + 1]? = some (.cells #[.int .i64 6, .string ⟨#[]⟩, St anc, .slice A9 l.length c9] 24) := blk_set (blk_set (blk_set (blk_set hj9)))
      have hrowK : ∀ w', (∀ b, b < w9.heap.size → H + 2 ≤ b → w'.heap[b]? = w9.heap[b]?) → Rep1 w' (fun b => w.heap.size ≤ b) (.mk 6 [] anc l) (.agg #[.int .i64 6, St [], St anc, .slice A9 l.length c9]) := fun w' hk => by
        rw [H21.out.2.2.2.1] at hrow9
        exact hrow9.tree (by omega) hk 6 [] anc
      obtain ⟨z0, z1, z2, z3, y0, y1, y2, y3⟩ := cells4 hz10
      obtain ⟨p0, p1, p2, q0, q1, q2⟩ := cells3 hp10
      obtain ⟨j0, j1, j2, j3, k0, k1, k2, k3⟩ := cells4 hj10
      have HR := Lib.hid hrowK
      have H10 := Lib.hid (And.intro h10 (And.intro hz10 (And.intro hj10 f10)))
      have HZ9 := Lib.hid (And.intro hz9 hp9)
      clear hz9 hp9 f9' hz10 hp10 h10 f10 hj10 h9 f9 hrow9 hrowK s0 s1 s2 t0 t1 t2 s0' s1' s2' t0' t1' t2'
      go_wp2_with fail
      have hd := blk_set (i := 3) (v := .slice A9 l.length c9) (blk_set (i := 2) (v := St anc) (blk_set (i := 1) (v := St []) (blk_set (i := 0) (v := .int .i64 6) H10.out.2.1)))
      have e0 := blk_cell hd 0
      have e1 := blk_cell hd 1
      have e2 := blk_cell hd 2
      have e3 := blk_cell hd 3
      exact bodyPost_ret (v := .agg #[.int .i64 6, St [], St anc, .slice A9 l.length c9]) (by simp [results, Tryz.results30, go_sem, e0, e1, e2, e3]) rfl
        ⟨_, rfl, HR.out _ (fun b hb hBb => by (repeat rw [Below.heap_setCell _ _ _ _ (by simp; omega)]); try (first | rfl | exact Below.heap_alloc _ _ _ hb)), blk_set_ne (blk_set_ne (blk_set_ne (blk_set_ne H10.out.1 (by simp; omega)) (by simp; omega)) (by simp; omega)) (by simp; omega), (((H10.out.2.2.2.setCell (.inl (by simp; omega)) _).setCell (.inl (by simp; omega)) _).setCell (.inl (by simp; omega)) _).setCell (.inl (by simp; omega)) _⟩
    · have hz9 := blk_fr H20.out.2.2.1 f9 (blk_lt H20.out.2.2.1) hFg
      have hp9 := blk_fr H20.out.2.1 f9 (blk_lt H20.out.2.1) hHg
      have f9' := H3.out.2.2.2.drew.call f9 H3.out.2.2.2.size (fun _ _ h => h)
      obtain ⟨J, hJ⟩ : ∃ J, w9.heap.size = J := ⟨_, rfl⟩
      have hJF : F < J := by rw [← hJ]; exact blk_lt hz9
      have hJH : H < J := by rw [← hJ]; exact blk_lt hp9
      have hJg : J ≠ g := by omega
      have hz10 : (w9.alloc (.cells #[.int .i64 6, St [], St anc, .slice A9 l.length c9] 24)).heap[F]? = some (.cells #[.int .i64 0, St [], St [], .slice none 0 0] 24) := blk_alloc hz9
      have hp10 : (w9.alloc (.cells #[.int .i64 6, St [], St anc, .slice A9 l.length c9] 24)).heap[H]? = some (.cells #[St anc, .int .i64 0, .int .i64 tagAt] 89) := blk_alloc hp9
      have h10 : rE.At (w9.alloc (.cells #[.int .i64 6, St [], St anc, .slice A9 l.length c9] 24)) g := blk_alloc h9
      have f10 : Fr (· = g) w.heap.size w (w9.alloc (.cells #[.int .i64 6, St [], St anc, .slice A9 l.length c9] 24)) := f9'.alloc f9'.size _
      have hj10 : (w9.alloc (.cells #[.int .i64 6, St [], St anc, .slice A9 l.length c9] 24)).heap[J]? = some (.cells #[.int .i64 6, St [], St anc, .slice A9 l.length c9] 24) := by rw [← hJ]; exact blk_new _ _
      have hrowK : ∀ w', (∀ b, b < w9.heap.size → H + 1 ≤ b → w'.heap[b]? = w9.heap[b]?) → Rep1 w' (fun b => w.heap.size ≤ b) (.mk 6 [] anc l) (.agg #[.int .i64 6, St [], St anc, .slice A9 l.length c9]) := fun w' hk => by
        rw [H20.out.2.2.2] at hrow9
        exact hrow9.tree (by omega) hk 6 [] anc
      obtain ⟨z0, z1, z2, z3, y0, y1, y2, y3⟩ := cells4 hz10
      obtain ⟨p0, p1, p2, q0, q1, q2⟩ := cells3 hp10
      obtain ⟨j0, j1, j2, j3, k0, k1, k2, k3⟩ := cells4 hj10
      obtain ⟨zz0, zz1, zz2, zz3, yy0, yy1, yy2, yy3⟩ := cells4 hz9
      have HR := Lib.hid hrowK
      have H9 := Lib.hid (And.intro hz9 (And.intro h9 f9'))
      have H10 := Lib.hid (And.intro h10 (And.intro hz10 (And.intro hj10 f10)))
      have HZ9 := Lib.hid (And.intro hz9 hp9)
      clear hz9 hp9 f9' hz10 hp10 h10 f10 hj10 h9 f9 hrow9 hrowK s0 s1 s2 t0 t1 t2 s0' s1' s2' t0' t1' t2'
      go_wp2_with fail
      have hd := blk_alloc (x := .cells #[.int .i64 6, St [], St anc, .slice A9 l.length c9] 24) (blk_set (i := 3) (v := .slice A9 l.length c9) (blk_set (i := 2) (v := St anc) (blk_set (i := 1) (v := St []) (blk_set (i := 0) (v := .int .i64 6) H9.out.1))))
      have e0 := blk_cell hd 0
      have e1 := blk_cell hd 1
      have e2 := blk_cell hd 2
      have e3 := blk_cell hd 3
      exact bodyPost_ret (v := .agg #[.int .i64 6, St [], St anc, .slice A9 l.length c9]) (by simp [results, Tryz.results30, go_sem, e0, e1, e2, e3]) rfl
        ⟨_, rfl, HR.out _ (fun b hb hBb => by rw [Below.heap_alloc _ _ _ (by simp; omega)]; (repeat rw [Below.heap_setCell _ _ _ _ (by simp; omega)])), blk_alloc (blk_set_ne (blk_set_ne (blk_set_ne (blk_set_ne H9.out.2.1 (by simp; omega)) (by simp; omega)) (by simp; omega)) (by simp; omega)), ((((H9.out.2.2.setCell (.inl (by simp; omega)) _).setCell (.inl (by simp; omega)) _).setCell (.inl (by simp; omega)) _).setCell (.inl (by simp; omega)) _).alloc (by have := H9.out.2.2.size; simp; omega) _⟩
    · have hz9 := blk_fr H20.out.2.2.1 f9 (blk_lt H20.out.2.2.1) hFg
      have hp9 := blk_fr H20.out.2.1 f9 (blk_lt H20.out.2.1) hHg
      have f9' := H3.out.2.2.2.drew.call f9 H3.out.2.2.2.size (fun _ _ h => h)
      obtain ⟨J, hJ⟩ : ∃ J, w9.heap.size = J := ⟨_, rfl⟩
      have hJF : F < J := by rw [← hJ]; exact blk_lt hz9
      have hJH : H < J := by rw [← hJ]; exact blk_lt hp9
      have hJg : J ≠ g := by omega
      have hz10 : (w9.alloc (.cells #[.int .i64 6, St [], St anc, .slice A9 l.length c9] 24)).heap[F]? = some (.cells #[.int .i64 0, St [], St [], .slice none 0 0] 24) := blk_alloc hz9
      have hp10 : (w9.alloc (.cells #[.int .i64 6, St [], St anc, .slice A9 l.length c9] 24)).heap[H]? = some (.cells #[St anc, .int .i64 0, .int .i64 tagAt] 89) := blk_alloc hp9
      have h10 : rE.At (w9.alloc (.cells #[.int .i64 6, St [], St anc, .slice A9 l.length c9] 24)) g := blk_alloc h9
      have f10 : Fr (· = g) w.heap.size w (w9.alloc (.cells #[.int .i64 6, St [], St anc, .slice A9 l.length c9] 24)) := f9'.alloc f9'.size _
      have hj10 : (w9.alloc (.cells #[.int .i64 6, St [], St anc, .slice A9 l.length c9] 24)).heap[J]? = some (.cells #[.int .i64 6, St [], St anc, .slice A9 l.length c9] 24) := by rw [← hJ]; exact blk_new _ _
      have hrowK : ∀ w', (∀ b, b < w9.heap.size → H + 1 ≤ b → w'.heap[b]? = w9.heap[b]?) → Rep1 w' (fun b => w.heap.size ≤ b) (.mk 6 [] anc l) (.agg #[.int .i64 6, St [], St anc, .slice A9 l.length c9]) := fun w' hk => by
        rw [H20.out.2.2.2] at hrow9
        exact hrow9.tree (by omega) hk 6 [] anc
      obtain ⟨z0, z1, z2, z3, y0, y1, y2, y3⟩ := cells4 hz10
      obtain ⟨p0, p1, p2, q0, q1, q2⟩ := cells3 hp10
      obtain ⟨j0, j1, j2, j3, k0, k1, k2, k3⟩ := cells4 hj10
      obtain ⟨zz0, zz1, zz2, zz3, yy0, yy1, yy2, yy3⟩ := cells4 hz9
      have HR := Lib.hid hrowK
      have H9 := Lib.hid (And.intro hz9 (And.intro h9 f9'))
      have H10 := Lib.hid (And.intro h10 (And.intro hz10 (And.intro hj10 f10)))
      have HZ9 := Lib.hid (And.intro hz9 hp9)
      clear hz9 hp9 f9' hz10 hp10 h10 f10 hj10 h9 f9 hrow9 hrowK s0 s1 s2 t0 t1 t2 s0' s1' s2' t0' t1' t2'
      go_wp2_with fail
      have hd := blk_alloc (x := .cells #[.int .i64 6, St [], St anc, .slice A9 l.length c9] 24) (blk_set (i := 3) (v := .slice A9 l.length c9) (blk_set (i := 2) (v := St anc) (blk_set (i := 1) (v := St []) (blk_set (i := 0) (v := .int .i64 6) H9.out.1))))
      have e0 := blk_cell hd 0
      have e1 := blk_cell hd 1
      have e2 := blk_cell hd 2
      have e3 := blk_cell hd 3
      exact bodyPost_ret (v := .agg #[.int .i64 6, St [], St anc, .slice A9 l.length c9]) (by simp [results, Tryz.results30, go_sem, e0, e1, e2, e3]) rfl
        ⟨_, rfl, HR.out _ (fun b hb hBb => by rw [Below.heap_alloc _ _ _ (by simp; omega)]; (repeat rw [Below.heap_setCell _ _ _ _ (by simp; omega)])), blk_alloc (blk_set_ne (blk_set_ne (blk_set_ne (blk_set_ne H9.out.2.1 (by simp; omega)) (by simp; omega)) (by simp; omega)) (by simp; omega)), ((((H9.out.2.2.setCell (.inl (by simp; omega)) _).setCell (.inl (by simp; omega)) _).setCell (.inl (by simp; omega)) _).setCell (.inl (by simp; omega)) _).alloc (by have := H9.out.2.2.size; simp; omega) _⟩
    · have hz9 := blk_fr H21.out.2.2.1 f9 (blk_lt H21.out.2.2.1) hFg
      have hp9 := blk_fr H21.out.2.1 f9 (blk_lt H21.out.2.1) hHg
      have hj9 := blk_fr H21.out.2.2.2.2.2.1 f9 (blk_lt H21.out.2.2.2.2.2.1) hJg1
      have f9' := H21.out.2.2.2.2.2.2.call f9 H21.out.2.2.2.2.2.2.size (fun _ _ h => h)
      have hJg := hJg1
      have hz10 : ((((w9.setCell ⟨H + 1, 0, none⟩ (.int .i64 6)).setCell ⟨H + 1, 1, none⟩ (.string ⟨#[]⟩)).setCell ⟨H + 1, 2, none⟩ (St anc)).setCell ⟨H + 1, 3, none⟩ (.slice A9 l.length c9)).heap[F]? = some (.cells #[.int .i64 0, St [], St [], .slice none 0 0] 24) := blk_set_ne (blk_set_ne (blk_set_ne (blk_set_ne hz9 (by simp; omega)) (by simp; omega)) (by simp; omega)) (by simp; omega)
      have hp10 : ((((w9.setCell ⟨H + 1, 0, none⟩ (.int .i64 6)).setCell ⟨H + 1, 1, none⟩ (.string ⟨#[]⟩)).setCell ⟨H + 1, 2, none⟩ (St anc)).setCell ⟨H + 1, 3, none⟩ (.slice A9 l.length c9)).heap[H]? = some (.cells #[St anc, .int .i64 0, .int .i64 tagAt] 89) := blk_set_ne (blk_set_ne (blk_set_ne (blk_set_ne hp9 (by simp)) (by simp)) (by simp)) (by simp)
      have h10 : rE.At ((((w9.setCell ⟨H + 1, 0, none⟩ (.int .i64 6)).setCell ⟨H + 1, 1, none⟩ (.string ⟨#[]⟩)).setCell ⟨H + 1, 2, none⟩ (St anc)).setCell ⟨H + 1, 3, none⟩ (.slice A9 l.length c9)) g := blk_set_ne (blk_set_ne (blk_set_ne (blk_set_ne h9 (by simp; omega)) (by simp; omega)) (by simp; omega)) (by simp; omega)
      have f10 : Fr (· = g) w.heap.size w ((((w9.setCell ⟨H + 1, 0, none⟩ (.int .i64 6)).setCell ⟨H + 1, 1, none⟩ (.string ⟨#[]⟩)).setCell ⟨H + 1, 2, none⟩ (St anc)).setCell ⟨H + 1, 3, none⟩ (.slice A9 l.length c9)) := (((f9'.setCell (.inl (by simp; omega)) _).setCell (.inl (by simp; omega)) _).setCell (.inl (by simp; omega)) _).setCell (.inl (by simp; omega)) _
      have hj10 : ((((w9.setCell ⟨H + 1, 0, none⟩ (.int .i64 6)).setCell ⟨H + 1, 1, none⟩ (.string ⟨#[]⟩)).setCell ⟨H + 1, 2, none⟩ (St anc)).setCell ⟨H + 1, 3, none⟩ (.slice A9 l.length c9)).heap[H + 1]? = some (.cells #[.int .i64 6, .string ⟨#[]⟩, St anc, .slice A9 l.length c9] 24) := blk_set (blk_set (blk_set (blk_set hj9)))
      have hrowK : ∀ w', (∀ b, b < w9.heap.size → H + 2 ≤ b → w'.heap[b]? = w9.heap[b]?) → Rep1 w' (fun b => w.heap.size ≤ b) (.mk 6 [] anc l) (.agg #[.int .i64 6, St [], St anc, .slice A9 l.length c9]) := fun w' hk => by
        rw [H21.out.2.2.2.1] at hrow9
        exact hrow9.tree (by omega) hk 6 [] anc
      obtain ⟨z0, z1, z2, z3, y0, y1, y2, y3⟩ := cells4 hz10
      obtain ⟨p0, p1, p2, q0, q1, q2⟩ := cells3 hp10
      obtain ⟨j0, j1, j2, j3, k0, k1, k2, k3⟩ := cells4 hj10
      have HR := Lib.hid hrowK
      have H10 := Lib.hid (And.intro h10 (And.intro hz10 (And.intro hj10 f10)))
      have HZ9 := Lib.hid (And.intro hz9 hp9)
      clear hz9 hp9 f9' hz10 hp10 h10 f10 hj10 h9 f9 hrow9 hrowK s0 s1 s2 t0 t1 t2 s0' s1' s2' t0' t1' t2'
      go_wp2_with fail
      have hd := blk_set (i := 3) (v := .slice A9 l.length c9) (blk_set (i := 2) (v := St anc) (blk_set (i := 1) (v := St []) (blk_set (i := 0) (v := .int .i64 6) H10.out.2.1)))
      have e0 := blk_cell hd 0
      have e1 := blk_cell hd 1
      have e2 := blk_cell hd 2
      have e3 := blk_cell hd 3
      exact bodyPost_ret (v := .agg #[.int .i64 6, St [], St anc, .slice A9 l.length c9]) (by simp [results, Tryz.results30, go_sem, e0, e1, e2, e3]) rfl
        ⟨_, rfl, HR.out _ (fun b hb hBb => by (repeat rw [Below.heap_setCell _ _ _ _ (by simp; omega)]); try (first | rfl | exact Below.heap_alloc _ _ _ hb)), blk_set_ne (blk_set_ne (blk_set_ne (blk_set_ne H10.out.1 (by simp; omega)) (by simp; omega)) (by simp; omega)) (by simp; omega), (((H10.out.2.2.2.setCell (.inl (by simp; omega)) _).setCell (.inl (by simp; omega)) _).setCell (.inl (by simp; omega)) _).setCell (.inl (by simp; omega)) _⟩
    · have hz9 := blk_fr H21.out.2.2.1 f9 (blk_lt H21.out.2.2.1) hFg
      have hp9 := blk_fr H21.out.2.1 f9 (blk_lt H21.out.2.1) hHg
      have hj9 := blk_fr H21.out.2.2.2.2.2.1 f9 (blk_lt H21.out.2.2.2.2.2.1) hJg1
      have f9' := H21.out.2.2.2.2.2.2.call f9 H21.out.2.2.2.2.2.2.size (fun _ _ h => h)
      have hJg := hJg1
      have hz10 : ((((w9.setCell ⟨H + 1, 0, none⟩ (.int .i64 6)).setCell ⟨H + 1, 1, none⟩ (.string ⟨#[]⟩)).setCell ⟨H + 1, 2, none⟩ (St anc)).setCell ⟨H + 1, 3, none⟩ (.slice A9 l.length c9)).heap[F]? = some (.cells #[.int .i64 0, St [], St [], .slice none 0 0] 24) := blk_set_ne (blk_set_ne (blk_set_ne (blk_set_ne hz9 (by simp; omega)) (by simp; omega)) (by simp; omega)) (by simp; omega)
      have hp10 : ((((w9.setCell ⟨H + 1, 0, none⟩ (.int .i64 6)).setCell ⟨H + 1, 1, none⟩ (.string ⟨#[]⟩)).setCell ⟨H + 1, 2, none⟩ (St anc)).setCell ⟨H + 1, 3, none⟩ (.slice A9 l.length c9)).heap[H]? = some (.cells #[St anc, .int .i64 0, .int .i64 tagAt] 89) := blk_set_ne (blk_set_ne (blk_set_ne (blk_set_ne hp9 (by simp)) (by simp)) (by simp)) (by simp)
      have h10 : rE.At ((((w9.setCell ⟨H + 1, 0, none⟩ (.int .i64 6)).setCell ⟨H + 1, 1, none⟩ (.string ⟨#[]⟩)).setCell ⟨H + 1, 2, none⟩ (St anc)).setCell ⟨H + 1, 3, none⟩ (.slice A9 l.length c9)) g := blk_set_ne (blk_set_ne (blk_set_ne (blk_set_ne h9 (by simp; omega)) (by simp; omega)) (by simp; omega)) (by simp; omega)
      have f10 : Fr (· = g) w.heap.size w ((((w9.setCell ⟨H + 1, 0, none⟩ (.int .i64 6)).setCell ⟨H + 1, 1, none⟩ (.string ⟨#[]⟩)).setCell ⟨H + 1, 2, none⟩ (St anc)).setCell ⟨H + 1, 3, none⟩ (.slice A9 l.length c9)) := (((f9'.setCell (.inl (by simp; omega)) _).setCell (.inl (by simp; omega)) _).setCell (.inl (by simp; omega)) _).setCell (.inl (by simp; omega)) _
      have hj10 : ((((w9.setCell ⟨H + 1, 0, none⟩ (.int .i64 6)).setCell ⟨H + 1, 1, none⟩ (.string ⟨#[]⟩)).setCell ⟨H + 1, 2, none⟩ (St anc)).setCell ⟨H + 1, 3, none⟩ (.slice A9 l.length c9)).heap[H + 1]? = some (.cells #[.int .i64 6, .string ⟨#[]⟩, St anc, .slice A9 l.length c9] 24) := blk_set (blk_set (blk_set (blk_set hj9)))
      have hrowK : ∀ w', (∀ b, b < w9.heap.size → H + 2 ≤ b → w'.heap[b]? = w9.heap[b]?) → Rep1 w' (fun b => w.heap.size ≤ b) (.mk 6 [] anc l) (.agg #[.int .i64 6, St [], St anc, .slice A9 l.length c9]) := fun w' hk => by
        rw [H21.out.2.2.2.1] at hrow9
        exact hrow9.tree (by omega) hk 6 [] anc
      obtain ⟨z0, z1, z2, z3, y0, y1, y2, y3⟩ := cells4 hz10
      obtain ⟨p0, p1, p2, q0, q1, q2⟩ := cells3 hp10
      obtain ⟨j0, j1, j2, j3, k0, k1, k2, k3⟩ := cells4 hj10
      have HR := Lib.hid hrowK
      have H10 := Lib.hid (And.intro h10 (And.intro hz10 (And.intro hj10 f10)))
      have HZ9 := Lib.hid (And.intro hz9 hp9)
      clear hz9 hp9 f9' hz10 hp10 h10 f10 hj10 h9 f9 hrow9 hrowK s0 s1 s2 t0 t1 t2 s0' s1' s2' t0' t1' t2'
      go_wp2_with fail
      have hd := blk_set (i := 3) (v := .slice A9 l.length c9) (blk_set (i := 2) (v := St anc) (blk_set (i := 1) (v := St []) (blk_set (i := 0) (v := .int .i64 6) H10.out.2.1)))
      have e0 := blk_cell hd 0
      have e1 := blk_cell hd 1
      have e2 := blk_cell hd 2
      have e3 := blk_cell hd 3
      exact bodyPost_ret (v := .agg #[.int .i64 6, St [], St anc, .slice A9 l.length c9]) (by simp [results, Tryz.results30, go_sem, e0, e1, e2, e3]) rfl
        ⟨_, rfl, HR.out _ (fun b hb hBb => by (repeat rw [Below.heap_setCell _ _ _ _ (by simp; omega)]); try (first | rfl | exact Below.heap_alloc _ _ _ hb)), blk_set_ne (blk_set_ne (blk_set_ne (blk_set_ne H10.out.1 (by simp; omega)) (by simp; omega)) (by simp; omega)) (by simp; omega), (((H10.out.2.2.2.setCell (.inl (by simp; omega)) _).setCell (.inl (by simp; omega)) _).setCell (.inl (by simp; omega)) _).setCell (.inl (by simp; omega)) _⟩
  · go_enter Tryz.func30, Tryz.ntmps30
    go_wp2_with fail
    refine (hSk _ (by exact HA0.out)).mono ?_
    rintro e w1 ⟨rfl, h1, f1⟩
    have hz1 := blk_fr HZ0.out.1 f1 (blk_lt HZ0.out.1) hFg
    have f1' := HZ0.out.2.call f1 HZ0.out.2.size (fun _ _ h => h)
    go_wp2_with fail
    refine (hPr _ h1).mono ?_
    rintro e w2 ⟨rfl, h2, f2⟩
    have hz2 := blk_fr hz1 f2 (blk_lt hz1) hFg
    have f2' := f1'.call f2 f1'.size (fun _ _ h => h)
    obtain ⟨H, hH⟩ : ∃ H, w2.heap.size = H := ⟨_, rfl⟩
    have hFH : F < H := by rw [← hH]; exact blk_lt hz2
    have h3 : r1.At (w2.alloc (.cells #[St anc, .int .i64 6, .int .i64 tagAt] 89)) g := blk_alloc h2
    have hz3 : (w2.alloc (.cells #[St anc, .int .i64 6, .int .i64 tagAt] 89)).heap[F]? = some (.cells #[.int .i64 0, St [], St [], .slice none 0 0] 24) := blk_alloc hz2
    have hp3 : (w2.alloc (.cells #[St anc, .int .i64 6, .int .i64 tagAt] 89)).heap[H]? = some (.cells #[St anc, .int .i64 6, .int .i64 tagAt] 89) := by rw [← hH]; exact blk_new _ _
    have f3 : Fr (· = g) w.heap.size w (w2.alloc (.cells #[St anc, .int .i64 6, .int .i64 tagAt] 89)) := f2'.alloc f2'.size _
    have hHg : H ≠ g := by omega
    have hN42 := hNx [42] _ h3
    have hN91 := hNx [91] _ h3
    have hN123 := hNx [123] _ h3
    obtain ⟨a0, a1, a2, a3, i0, i1, i2, i3⟩ := h3.parts
    obtain ⟨z0, z1, z2, z3, y0, y1, y2, y3⟩ := cells4 hz3
    obtain ⟨p0, p1, p2, q0, q1, q2⟩ := cells3 hp3
    have H3 := Lib.hid (And.intro h3 (And.intro hz3 (And.intro hp3 f3)))
    clear h1 f1 hz1 f1' h2 f2 hz2 f2' h3 hz3 hp3 f3 hNx
    rw [n42] at hN42
    rw [n91] at hN91
    rw [n123] at hN123
    clear n42 n91
    have he20 : Env G (w2.alloc (.cells #[St anc, .int .i64 6, .int .i64 tagAt] 89)).drew := HEN.out _ H3.out.2.2.2.drew
    have hp20 : (w2.alloc (.cells #[St anc, .int .i64 6, .int .i64 tagAt] 89)).drew.heap[H]? = some (.cells #[St anc, .int .i64 6, .int .i64 tagAt] 89) := H3.out.2.2.1
    have hz20 : (w2.alloc (.cells #[St anc, .int .i64 6, .int .i64 tagAt] 89)).drew.heap[F]? = some (.cells #[.int .i64 0, St [], St [], .slice none 0 0] 24) := H3.out.2.1
    obtain ⟨s0, s1, s2, t0, t1, t2⟩ := cells3 hp20
    have hBz : (w2.alloc (.cells #[St anc, .int .i64 6, .int .i64 tagAt] 89)).drew.heap.size = H + 1 := by show (w2.alloc _).heap.size = _; rw [World.size_alloc, hH]
    have H20 := Lib.hid (And.intro he20 (And.intro hp20 (And.intro hz20 hBz)))
    have he21 : Env G ((w2.alloc (.cells #[St anc, .int .i64 6, .int .i64 tagAt] 89)).alloc (.cells #[.int .i64 0, .string ⟨#[]⟩, .string ⟨#[]⟩, .slice none 0 0] 24)).drew := HEN.out _ (H3.out.2.2.2.alloc H3.out.2.2.2.size _).drew
    have h21 : r1.At ((w2.alloc (.cells #[St anc, .int .i64 6, .int .i64 tagAt] 89)).alloc (.cells #[.int .i64 0, .string ⟨#[]⟩, .string ⟨#[]⟩, .slice none 0 0] 24)).drew g := blk_alloc H3.out.1
    have hp21 : ((w2.alloc (.cells #[St anc, .int .i64 6, .int .i64 tagAt] 89)).alloc (.cells #[.int .i64 0, .string ⟨#[]⟩, .string ⟨#[]⟩, .slice none 0 0] 24)).drew.heap[H]? = some (.cells #[St anc, .int .i64 6, .int .i64 tagAt] 89) := blk_alloc H3.out.2.2.1
    have hz21 : ((w2.alloc (.cells #[St anc, .int .i64 6, .int .i64 tagAt] 89)).alloc (.cells #[.int .i64 0, .string ⟨#[]⟩, .string ⟨#[]⟩, .slice none 0 0] 24)).drew.heap[F]? = some (.cells #[.int .i64 0, St [], St [], .slice none 0 0] 24) := blk_alloc H3.out.2.1
    have hj21 : ((w2.alloc (.cells #[St anc, .int .i64 6, .int .i64 tagAt] 89)).alloc (.cells #[.int .i64 0, .string ⟨#[]⟩, .string ⟨#[]⟩, .slice none 0 0] 24)).drew.heap[H + 1]? = some (.cells #[.int .i64 0, St [], St [], .slice none 0 0] 24) := by
      have := blk_new1 w2 (.cells #[St anc, .int .i64 6, .int .i64 tagAt] 89) (.cells #[.int .i64 0, .string ⟨#[]⟩, .string ⟨#[]⟩, .slice none 0 0] 24)
      rw [hH] at this
      exact this
    have hB21 : ((w2.alloc (.cells #[St anc, .int .i64 6, .int .i64 tagAt] 89)).alloc (.cells #[.int .i64 0, .string ⟨#[]⟩, .string ⟨#[]⟩, .slice none 0 0] 24)).drew.heap.size = H + 2 := by show ((w2.alloc _).alloc _).heap.size = _; rw [World.size_alloc, World.size_alloc, hH]
    have f21 : Fr (· = g) w.heap.size w ((w2.alloc (.cells #[St anc, .int .i64 6, .int .i64 tagAt] 89)).alloc (.cells #[.int .i64 0, .string ⟨#[]⟩, .string ⟨#[]⟩, .slice none 0 0] 24)).drew := (H3.out.2.2.2.alloc H3.out.2.2.2.size _).drew
    obtain ⟨s0x, s1x, s2x, t0x, t1x, t2x⟩ := cells3 hp21
    have H21 := Lib.hid (And.intro he21 (And.intro hp21 (And.intro hz21 (And.intro hB21 (And.intro h21 (And.intro hj21 f21))))))
    have hJg1 : H + 1 ≠ g := by omega
    clear he20 hp20 hz20 hBz he21 h21 hp21 hz21 hj21 hB21 f21
    go_wp2_with fail
    refine (hN42).mono ?_
    rintro e w4 ⟨rfl, rfl⟩
    go_wp2_with fail
    refine (hN91).mono ?_
    rintro e w4 ⟨rfl, rfl⟩
    go_wp2_with fail
    refine (hN123).mono ?_
    rintro e w4 ⟨rfl, rfl⟩
    go_wp2_with fail
    go_region_with (first | (go_at_call 65; refine (hPt _ (by with_reducible exact H20.out.1) (by exact H3.out.1)).mono ?_; rintro x w9 ⟨v9, rfl, hrow9, h9, f9⟩; obtain ⟨A9, c9, rfl⟩ : ∃ A c, v9 = .slice A l.length c := (let ⟨xs, ho, _⟩ := hrow9; own_slice ho); obtain ⟨s0', s1', s2', t0', t1', t2'⟩ := cells3 (blk_fr H20.out.2.1 f9 (blk_lt H20.out.2.1) hHg); obtain ⟨s0y, s1y, s2y, t0y, t1y, t2y⟩ := cells3 (blk_alloc (x := .cells #[.int .i64 0, .string ⟨#[]⟩, .string ⟨#[]⟩, .slice none 0 0] 24) (blk_fr H20.out.2.1 f9 (blk_lt H20.out.2.1) hHg))) | (go_at_call 65; refine (hPt _ (by with_reducible exact H21.out.1) (by exact H21.out.2.2.2.2.1)).mono ?_; rintro x w9 ⟨v9, rfl, hrow9, h9, f9⟩; obtain ⟨A9, c9, rfl⟩ : ∃ A c, v9 = .slice A l.length c := (let ⟨xs, ho, _⟩ := hrow9; own_slice ho); obtain ⟨s0', s1', s2', t0', t1', t2'⟩ := cells3 (blk_fr H21.out.2.1 f9 (blk_lt H21.out.2.1) hHg); obtain ⟨m0', m1', m2', m3', n0', n1', n2', n3'⟩ := cells4 (blk_fr H21.out.2.2.2.2.2.1 f9 (blk_lt H21.out.2.2.2.2.2.1) hJg1)))
    · have hz9 := blk_fr H20.out.2.2.1 f9 (blk_lt H20.out.2.2.1) hFg
      have hp9 := blk_fr H20.out.2.1 f9 (blk_lt H20.out.2.1) hHg
      have f9' := H3.out.2.2.2.drew.call f9 H3.out.2.2.2.size (fun _ _ h => h)
      obtain ⟨J, hJ⟩ : ∃ J, w9.heap.size = J := ⟨_, rfl⟩
      have hJF : F < J := by rw [← hJ]; exact blk_lt hz9
      have hJH : H < J := by rw [← hJ]; exact blk_lt hp9
      have hJg : J ≠ g := by omega
      have hz10 : (w9.alloc (.cells #[.int .i64 6, St [], St anc, .slice A9 l.length c9] 24)).heap[F]? = some (.cells #[.int .i64 0, St [], St [], .slice none 0 0] 24) := blk_alloc hz9
      have hp10 : (w9.alloc (.cells #[.int .i64 6, St [], St anc, .slice A9 l.length c9] 24)).heap[H]? = some (.cells #[St anc, .int .i64 6, .int .i64 tagAt] 89) := blk_alloc hp9
      have h10 : rE.At (w9.alloc (.cells #[.int .i64 6, St [], St anc, .slice A9 l.length c9] 24)) g := blk_alloc h9
      have f10 : Fr (· = g) w.heap.size w (w9.alloc (.cells #[.int .i64 6, St [], St anc, .slice A9 l.length c9] 24)) := f9'.alloc f9'.size _
      have hj10 : (w9.alloc (.cells #[.int .i64 6, St [], St anc, .slice A9 l.length c9] 24)).heap[J]? = some (.cells #[.int .i64 6, St [], St anc, .slice A9 l.length c9] 24) := by rw [← hJ]; exact blk_new _ _
      have hrowK : ∀ w', (∀ b, b < w9.heap.size → H + 1 ≤ b → w'.heap[b]? = w9.heap[b]?) → Rep1 w' (fun b => w.heap.size ≤ b) (.mk 6 [] anc l) (.agg #[.int .i64 6, St [], St anc, .slice A9 l.length c9]) := fun w' hk => by
        rw [H20.out.2.2.2] at hrow9
        exact hrow9.tree (by omega) hk 6 [] anc
      obtain ⟨z0, z1, z2, z3, y0, y1, y2, y3⟩ := cells4 hz10
      obtain ⟨p0, p1, p2, q0, q1, q2⟩ := cells3 hp10
      obtain ⟨j0, j1, j2, j3, k0, k1, k2, k3⟩ := cells4 hj10
      obtain ⟨zz0, zz1, zz2, zz3, yy0, yy1, yy2, yy3⟩ := cells4 hz9
      have HR := Lib.hid hrowK
      have H9 := Lib.hid (And.intro hz9 (And.intro h9 f9'))
      have H10 := Lib.hid (And.intro h10 (And.intro hz10 (And.intro hj10 f10)))
      have HZ9 := Lib.hid (And.intro hz9 hp9)
      clear hz9 hp9 f9' hz10 hp10 h10 f10 hj10 h9 f9 hrow9 hrowK s0 s1 s2 t0 t1 t2 s0' s1' s2' t0' t1' t2'
      go_wp2_with fail
      have hd := blk_alloc (x := .cells #[.int .i64 6, St [], St anc, .slice A9 l.length c9] 24) (blk_set (i := 3) (v := .slice A9 l.length c9) (blk_set (i := 2) (v := St anc) (blk_set (i := 1) (v := St []) (blk_set (i := 0) (v := .int .i64 6) H9.out.1))))
      have e0 := blk_cell hd 0
      have e1 := blk_cell hd 1
      have e2 := blk_cell hd 2
      have e3 := blk_cell hd 3
      exact bodyPost_ret (v := .agg #[.int .i64 6, St [], St anc, .slice A9 l.length c9]) (by simp [results, Tryz.results30, go_sem, e0, e1, e2, e3]) rfl
        ⟨_, rfl, HR.out _ (fun b hb hBb => by rw [Below.heap_alloc _ _ _ (by simp; omega)]; (repeat rw [Below.heap_setCell _ _ _ _ (by simp; omega)])), blk_alloc (blk_set_ne (blk_set_ne (blk_set_ne (blk_set_ne H9.out.2.1 (by simp; omega)) (by simp; omega)) (by simp; omega)) (by simp; omega)), ((((H9.out.2.2.setCell (.inl (by simp; omega)) _).setCell (.inl (by simp; omega)) _).setCell (.inl (by simp; omega)) _).setCell (.inl (by simp; omega)) _).alloc (by have := H9.out.2.2.size; simp; omega) _⟩
    · have hz9 := blk_fr H21.out.2.2.1 f9 (blk_lt H21.out.2.2.1) hFg
      have hp9 := blk_fr H21.out.2.1 f9 (blk_lt H21.out.2.1) hHg
      have hj9 := blk_fr H21.out.2.2.2.2.2.1 f9 (blk_lt H21.out.2.2.2.2.2.1) hJg1
      have f9' := H21.out.2.2.2.2.2.2.call f9 H21.out.2.2.2.2.2.2.size (fun _ _ h => h)
      have hJg := hJg1
      have hz10 : ((((w9.setCell ⟨H + 1, 0, none⟩ (.int .i64 6)).setCell ⟨H + 1, 1, none⟩ (.string ⟨#[]⟩)).setCell ⟨H + 1, 2, none⟩ (St anc)).setCell ⟨H + 1, 3, none⟩ (.slice A9 l.length c9)).heap[F]? = some (.cells #[.int .i64 0, St [], St [], .slice none 0 0] 24) := blk_set_ne (blk_set_ne (blk_set_ne (blk_set_ne hz9 (by simp; omega)) (by simp; omega)) (by simp; omega)) (by simp; omega)
      have hp10 : ((((w9.setCell ⟨H + 1, 0, none⟩ (.int .i64 6)).setCell ⟨H + 1, 1, none⟩ (.string ⟨#[]⟩)).setCell ⟨H + 1, 2, none⟩ (St anc)).setCell ⟨H + 1, 3, none⟩ (.slice A9 l.length c9)).heap[H]? = some (.cells #[St anc, .int .i64 6, .int .i64 tagAt] 89) := blk_set_ne (blk_set_ne (blk_set_ne (blk_set_ne hp9 (by simp)) (by simp)) (by simp)) (by simp)
      have h10 : rE.At ((((w9.setCell ⟨H + 1, 0, none⟩ (.int .i64 6)).setCell ⟨H + 1, 1, none⟩ (.string ⟨#[]⟩)).setCell ⟨H + 1, 2, none⟩ (St anc)).setCell ⟨H + 1, 3, none⟩ (.slice A9 l.length c9)) g := blk_set_ne (blk_set_ne (blk_set_ne (blk_set_ne h9 (by simp; omega)) (by simp; omega)) (by simp; omega)) (by simp; omega)
      have f10 : Fr (· = g) w.heap.size w ((((w9.setCell ⟨H + 1, 0, none⟩ (.int .i64 6)).setCell ⟨H + 1, 1, none⟩ (.string ⟨#[]⟩)).setCell ⟨H + 1, 2, none⟩ (St anc)).setCell ⟨H + 1, 3, none⟩ (.slice A9 l.length c9)) := (((f9'.setCell (.inl (by simp; omega)) _).setCell (.inl (by simp; omega)) _).setCell (.inl (by simp; omega)) _).setCell (.inl (by simp; omega)) _
      have hj10 : ((((w9.setCell ⟨H + 1, 0, none⟩ (.int .i64 6)).setCell ⟨H + 1, 1, none⟩ (.string ⟨#[]⟩)).setCell ⟨H + 1, 2, none⟩ (St anc)).setCell ⟨H + 1, 3, none⟩ (.slice A9 l.length c9)).heap[H + 1]? = some (.cells #[.int .i64 6, .string ⟨#[]⟩, St anc, .slice A9 l.length c9] 24) := blk_set (blk_set (blk_set (blk_set hj9)))
      have hrowK : ∀ w', (∀ b, b < w9.heap.size → H + 2 ≤ b → w'.heap[b]? = w9.heap[b]?) → Rep1 w' (fun b => w.heap.size ≤ b) (.mk 6 [] anc l) (.agg #[.int .i64 6, St [], St anc, .slice A9 l.length c9]) := fun w' hk => by
        rw [H21.out.2.2.2.1] at hrow9
        exact hrow9.tree (by omega) hk 6 [] anc
      obtain ⟨z0, z1, z2, z3, y0, y1, y2, y3⟩ := cells4 hz10
      obtain ⟨p0, p1, p2, q0, q1, q2⟩ := cells3 hp10
      obtain ⟨j0, j1, j2, j3, k0, k1, k2, k3⟩ := cells4 hj10
      have HR := Lib.hid hrowK
      have H10 := Lib.hid (And.intro h10 (And.intro hz10 (And.intro hj10 f10)))
      have HZ9 := Lib.hid (And.intro hz9 hp9)
      clear hz9 hp9 f9' hz10 hp10 h10 f10 hj10 h9 f9 hrow9 hrowK s0 s1 s2 t0 t1 t2 s0' s1' s2' t0' t1' t2'
      go_wp2_with fail
      have hd := blk_set (i := 3) (v := .slice A9 l.length c9) (blk_set (i := 2) (v := St anc) (blk_set (i := 1) (v := St []) (blk_set (i := 0) (v := .int .i64 6) H10.out.2.1)))
      have e0 := blk_cell hd 0
      have e1 := blk_cell hd 1
      have e2 := blk_cell hd 2
      have e3 := blk_cell hd 3
      exact bodyPost_ret (v := .agg #[.int .i64 6, St [], St anc, .slice A9 l.length c9]) (by simp [results, Tryz.results30, go_sem, e0, e1, e2, e3]) rfl
        ⟨_, rfl, HR.out _ (fun b hb hBb => by (repeat rw [Below.heap_setCell _ _ _ _ (by simp; omega)]); try (first | rfl | exact Below.heap_alloc _ _ _ hb)), blk_set_ne (blk_set_ne (blk_set_ne (blk_set_ne H10.out.1 (by simp; omega)) (by simp; omega)) (by simp; omega)) (by simp; omega), (((H10.out.2.2.2.setCell (.inl (by simp; omega)) _).setCell (.inl (by simp; omega)) _).setCell (.inl (by simp; omega)) _).setCell (.inl (by simp; omega)) _⟩
    · have hz9 := blk_fr H20.out.2.2.1 f9 (blk_lt H20.out.2.2.1) hFg
      have hp9 := blk_fr H20.out.2.1 f9 (blk_lt H20.out.2.1) hHg
      have f9' := H3.out.2.2.2.drew.call f9 H3.out.2.2.2.size (fun _ _ h => h)
      obtain ⟨J, hJ⟩ : ∃ J, w9.heap.size = J := ⟨_, rfl⟩
      have hJF : F < J := by rw [← hJ]; exact blk_lt hz9
      have hJH : H < J := by rw [← hJ]; exact blk_lt hp9
      have hJg : J ≠ g := by omega
      have hz10 : (w9.alloc (.cells #[.int .i64 6, St [], St anc, .slice A9 l.length c9] 24)).heap[F]? = some (.cells #[.int .i64 0, St [], St [], .slice none 0 0] 24) := blk_alloc hz9
      have hp10 : (w9.alloc (.cells #[.int .i64 6, St [], St anc, .slice A9 l.length c9] 24)).heap[H]? = some (.cells #[St anc, .int .i64 6, .int .i64 tagAt] 89) := blk_alloc hp9
      have h10 : rE.At (w9.alloc (.cells #[.int .i64 6, St [], St anc, .slice A9 l.length c9] 24)) g := blk_alloc h9
      have f10 : Fr (· = g) w.heap.size w (w9.alloc (.cells #[.int .i64 6, St [], St anc, .slice A9 l.length c9] 24)) := f9'.alloc f9'.size _
      have hj10 : (w9.alloc (.cells #[.int .i64 6, St [], St anc, .slice A9 l.length c9] 24)).heap[J]? = some (.cells #[.int .i64 6, St [], St anc, .slice A9 l.length c9] 24) := by rw [← hJ]; exact blk_new _ _
      have hrowK : ∀ w', (∀ b, b < w9.heap.size → H + 1 ≤ b → w'.heap[b]? = w9.heap[b]?) → Rep1 w' (fun b => w.heap.size ≤ b) (.mk 6 [] anc l) (.agg #[.int .i64 6, St [], St anc, .slice A9 l.length c9]) := fun w' hk => by
        rw [H20.out.2.2.2] at hrow9
        exact hrow9.tree (by omega) hk 6 [] anc
      obtain ⟨z0, z1, z2, z3, y0, y1, y2, y3⟩ := cells4 hz10
      obtain ⟨p0, p1, p2, q0, q1, q2⟩ := cells3 hp10
      obtain ⟨j0, j1, j2, j3, k0, k1, k2, k3⟩ := cells4 hj10
      obtain ⟨zz0, zz1, zz2, zz3, yy0, yy1, yy2, yy3⟩ := cells4 hz9
      have HR := Lib.hid hrowK
      have H9 := Lib.hid (And.intro hz9 (And.intro h9 f9'))
      have H10 := Lib.hid (And.intro h10 (And.intro hz10 (And.intro hj10 f10)))
      have HZ9 := Lib.hid (And.intro hz9 hp9)
      clear hz9 hp9 f9' hz10 hp10 h10 f10 hj10 h9 f9 hrow9 hrowK s0 s1 s2 t0 t1 t2 s0' s1' s2' t0' t1' t2'
      go_wp2_with fail
      have hd := blk_alloc (x := .cells #[.int .i64 6, St [], St anc, .slice A9 l.length c9] 24) (blk_set (i := 3) (v := .slice A9 l.length c9) (blk_set (i := 2) (v := St anc) (blk_set (i := 1) (v := St []) (blk_set (i := 0) (v := .int .i64 6) H9.out.1))))
      have e0 := blk_cell hd 0
      have e1 := blk_cell hd 1
      have e2 := blk_cell hd 2
      have e3 := blk_cell hd 3
      exact bodyPost_ret (v := .agg #[.int .i64 6, St [], St anc, .slice A9 l.length c9]) (by simp [results, Tryz.results30, go_sem, e0, e1, e2, e3]) rfl
        ⟨_, rfl, HR.out _ (fun b hb hBb => by rw [Below.heap_alloc _ _ _ (by simp; omega)]; (repeat rw [Below.heap_setCell _ _ _ _ (by simp; omega)])), blk_alloc (blk_set_ne (blk_set_ne (blk_set_ne (blk_set_ne H9.out.2.1 (by simp; omega)) (by simp; omega)) (by simp; omega)) (by simp; omega)), ((((H9.out.2.2.setCell (.inl (by simp; omega)) _).setCell (.inl (by simp; omega)) _).setCell (.inl (by simp; omega)) _).setCell (.inl (by simp; omega)) _).alloc (by have := H9.out.2.2.size; simp; omega) _⟩
    · have hz9 := blk_fr H20.out.2.2.1 f9 (blk_lt H20.out.2.2.1) hFg
      have hp9 := blk_fr H20.out.2.1 f9 (blk_lt H20.out.2.1) hHg
      have f9' := H3.out.2.2.2.drew.call f9 H3.out.2.2.2.size (fun _ _ h => h)
      obtain ⟨J, hJ⟩ : ∃ J, w9.heap.size = J := ⟨_, rfl⟩
      have hJF : F < J := by rw [← hJ]; exact blk_lt hz9
      have hJH : H < J := by rw [← hJ]; exact blk_lt hp9
      have hJg : J ≠ g := by omega
      have hz10 : (w9.alloc (.cells #[.int .i64 6, St [], St anc, .slice A9 l.length c9] 24)).heap[F]? = some (.cells #[.int .i64 0, St [], St [], .slice none 0 0] 24) := blk_alloc hz9
      have hp10 : (w9.alloc (.cells #[.int .i64 6, St [], St anc, .slice A9 l.length c9] 24)).heap[H]? = some (.cells #[St anc, .int .i64 6, .int .i64 tagAt] 89) := blk_alloc hp9
      have h10 : rE.At (w9.alloc (.cells #[.int .i64 6, St [], St anc, .slice A9 l.length c9] 24)) g := blk_alloc h9
      have f10 : Fr (· = g) w.heap.size w (w9.alloc (.cells #[.int .i64 6, St [], St anc, .slice A9 l.length c9] 24)) := f9'.alloc f9'.size _
      have hj10 : (w9.alloc (.cells #[.int .i64 6, St [], St anc, .slice A9 l.length c9] 24)).heap[J]? = some (.cells #[.int .i64 6, St [], St anc, .slice A9 l.length c9] 24) := by rw [← hJ]; exact blk_new _ _
      have hrowK : ∀ w', (∀ b, b < w9.heap.size → H + 1 ≤ b → w'.heap[b]? = w9.heap[b]?) → Rep1 w' (fun b => w.heap.size ≤ b) (.mk 6 [] anc l) (.agg #[.int .i64 6, St [], St anc, .slice A9 l.length c9]) := fun w' hk => by
        rw [H20.out.2.2.2] at hrow9
        exact hrow9.tree (by omega) hk 6 [] anc
      obtain ⟨z0, z1, z2, z3, y0, y1, y2, y3⟩ := cells4 hz10
      obtain ⟨p0, p1, p2, q0, q1, q2⟩ := cells3 hp10
      obtain ⟨j0, j1, j2, j3, k0, k1, k2, k3⟩ := cells4 hj10
      obtain ⟨zz0, zz1, zz2, zz3, yy0, yy1, yy2, yy3⟩ := cells4 hz9
      have HR := Lib.hid hrowK
      have H9 := Lib.hid (And.intro hz9 (And.intro h9 f9'))
      have H10 := Lib.hid (And.intro h10 (And.intro hz10 (And.intro hj10 f10)))
      have HZ9 := Lib.hid (And.intro hz9 hp9)
      clear hz9 hp9 f9' hz10 hp10 h10 f10 hj10 h9 f9 hrow9 hrowK s0 s1 s2 t0 t1 t2 s0' s1' s2' t0' t1' t2'
      go_wp2_with fail
      have hd := blk_alloc (x := .cells #[.int .i64 6, St [], St anc, .slice A9 l.length c9] 24) (blk_set (i := 3) (v := .slice A9 l.length c9) (blk_set (i := 2) (v := St anc) (blk_set (i := 1) (v := St []) (blk_set (i := 0) (v := .int .i64 6) H9.out.1))))
      have e0 := blk_cell hd 0
      have e1 := blk_cell hd 1
      have e2 := blk_cell hd 2
      have e3 := blk_cell hd 3
      exact bodyPost_ret (v := .agg #[.int .i64 6, St [], St anc, .slice A9 l.length c9]) (by simp [results, Tryz.results30, go_sem, e0, e1, e2, e3]) rfl
        ⟨_, rfl, HR.out _ (fun b hb hBb => by rw [Below.heap_alloc _ _ _ (by simp; omega)]; (repeat rw [Below.heap_setCell _ _ _ _ (by simp; omega)])), blk_alloc (blk_set_ne (blk_set_ne (blk_set_ne (blk_set_ne H9.out.2.1 (by simp; omega)) (by simp; omega)) (by simp; omega)) (by simp; omega)), ((((H9.out.2.2.setCell (.inl (by simp; omega)) _).setCell (.inl (by simp; omega)) _).setCell (.inl (by simp; omega)) _).setCell (.inl (by simp; omega)) _).alloc (by have := H9.out.2.2.size; simp; omega) _⟩
    · have hz9 := blk_fr H21.out.2.2.1 f9 (blk_lt H21.out.2.2.1) hFg
      have hp9 := blk_fr H21.out.2.1 f9 (blk_lt H21.out.2.1) hHg
      have hj9 := blk_fr H21.out.2.2.2.2.2.1 f9 (blk_lt H21.out.2.2.2.2.2.1) hJg1
      have f9' := H21.out.2.2.2.2.2.2.call f9 H21.out.2.2.2.2.2.2.size (fun _ _ h => h)
      have hJg := hJg1
      have hz10 : ((((w9.setCell ⟨H + 1, 0, none⟩ (.int .i64 6)).setCell ⟨H + 1, 1, none⟩ (.string ⟨#[]⟩)).setCell ⟨H + 1, 2, none⟩ (St anc)).setCell ⟨H + 1, 3, none⟩ (.slice A9 l.length c9)).heap[F]? = some (.cells #[.int .i64 0, St [], St [], .slice none 0 0] 24) := blk_set_ne (blk_set_ne (blk_set_ne (blk_set_ne hz9 (by simp; omega)) (by simp; omega)) (by simp; omega)) (by simp; omega)
      have hp10 : ((((w9.setCell ⟨H + 1, 0, none⟩ (.int .i64 6)).setCell ⟨H + 1, 1, none⟩ (.string ⟨#[]⟩)).setCell ⟨H + 1, 2, none⟩ (St anc)).setCell ⟨H + 1, 3, none⟩ (.slice A9 l.length c9)).heap[H]? = some (.cells #[St anc, .int .i64 6, .int .i64 tagAt] 89) := blk_set_ne (blk_set_ne (blk_set_ne (blk_set_ne hp9 (by simp)) (by simp)) (by simp)) (by simp)
      have h10 : rE.At ((((w9.setCell ⟨H + 1, 0, none⟩ (.int .i64 6)).setCell ⟨H + 1, 1, none⟩ (.string ⟨#[]⟩)).setCell ⟨H + 1, 2, none⟩ (St anc)).setCell ⟨H + 1, 3, none⟩ (.slice A9 l.length c9)) g := blk_set_ne (blk_set_ne (blk_set_ne (blk_set_ne h9 (by simp; omega)) (by simp; omega)) (by simp; omega)) (by simp; omega)
      have f10 : Fr (· = g) w.heap.size w ((((w9.setCell ⟨H + 1, 0, none⟩ (.int .i64 6)).setCell ⟨H + 1, 1, none⟩ (.string ⟨#[]⟩)).setCell ⟨H + 1, 2, none⟩ (St anc)).setCell ⟨H + 1, 3, none⟩ (.slice A9 l.length c9)) := (((f9'.setCell (.inl (by simp; omega)) _).setCell (.inl (by simp; omega)) _).setCell (.inl (by simp; omega)) _).setCell (.inl (by simp; omega)) _
      have hj10 : ((((w9.setCell ⟨H + 1, 0, none⟩ (.int .i64 6)).setCell ⟨H + 1, 1, none⟩ (.string ⟨#[]⟩)).setCell ⟨H + 1, 2, none⟩ (St anc)).setCell ⟨H + 1, 3, none⟩ (.slice A9 l.length c9)).heap[H + 1]? = some (.cells #[.int .i64 6, .string ⟨#[]⟩, St anc, .slice A9 l.length c9] 24) := blk_set (blk_set (blk_set (blk_set hj9)))
      have hrowK : ∀ w', (∀ b, b < w9.heap.size → H + 2 ≤ b → w'.heap[b]? = w9.heap[b]?) → Rep1 w' (fun b => w.heap.size ≤ b) (.mk 6 [] anc l) (.agg #[.int .i64 6, St [], St anc, .slice A9 l.length c9]) := fun w' hk => by
        rw [H21.out.2.2.2.1] at hrow9
        exact hrow9.tree (by omega) hk 6 [] anc
      obtain ⟨z0, z1, z2, z3, y0, y1, y2, y3⟩ := cells4 hz10
      obtain ⟨p0, p1, p2, q0, q1, q2⟩ := cells3 hp10
      obtain ⟨j0, j1, j2, j3, k0, k1, k2, k3⟩ := cells4 hj10
      have HR := Lib.hid hrowK
      have H10 := Lib.hid (And.intro h10 (And.intro hz10 (And.intro hj10 f10)))
      have HZ9 := Lib.hid (And.intro hz9 hp9)
      clear hz9 hp9 f9' hz10 hp10 h10 f10 hj10 h9 f9 hrow9 hrowK s0 s1 s2 t0 t1 t2 s0' s1' s2' t0' t1' t2'
      go_wp2_with fail
      have hd := blk_set (i := 3) (v := .slice A9 l.length c9) (blk_set (i := 2) (v := St anc) (blk_set (i := 1) (v := St []) (blk_set (i := 0) (v := .int .i64 6) H10.out.2.1)))
      have e0 := blk_cell hd 0
      have e1 := blk_cell hd 1
      have e2 := blk_cell hd 2
      have e3 := blk_cell hd 3
      exact bodyPost_ret (v := .agg #[.int .i64 6, St [], St anc, .slice A9 l.length c9]) (by simp [results, Tryz.results30, go_sem, e0, e1, e2, e3]) rfl
        ⟨_, rfl, HR.out _ (fun b hb hBb => by (repeat rw [Below.heap_setCell _ _ _ _ (by simp; omega)]); try (first | rfl | exact Below.heap_alloc _ _ _ hb)), blk_set_ne (blk_set_ne (blk_set_ne (blk_set_ne H10.out.1 (by simp; omega)) (by simp; omega)) (by simp; omega)) (by simp; omega), (((H10.out.2.2.2.setCell (.inl (by simp; omega)) _).setCell (.inl (by simp; omega)) _).setCell (.inl (by simp; omega)) _).setCell (.inl (by simp; omega)) _⟩
    · have hz9 := blk_fr H21.out.2.2.1 f9 (blk_lt H21.out.2.2.1) hFg
      have hp9 := blk_fr H21.out.2.1 f9 (blk_lt H21.out.2.1) hHg
      have hj9 := blk_fr H21.out.2.2.2.2.2.1 f9 (blk_lt H21.out.2.2.2.2.2.1) hJg1
      have f9' := H21.out.2.2.2.2.2.2.call f9 H21.out.2.2.2.2.2.2.size (fun _ _ h => h)
      have hJg := hJg1
      have hz10 : ((((w9.setCell ⟨H + 1, 0, none⟩ (.int .i64 6)).setCell ⟨H + 1, 1, none⟩ (.string ⟨#[]⟩)).setCell ⟨H + 1, 2, none⟩ (St anc)).setCell ⟨H + 1, 3, none⟩ (.slice A9 l.length c9)).heap[F]? = some (.cells #[.int .i64 0, St [], St [], .slice none 0 0] 24) := blk_set_ne (blk_set_ne (blk_set_ne (blk_set_ne hz9 (by simp; omega)) (by simp; omega)) (by simp; omega)) (by simp; omega)
      have hp10 : ((((w9.setCell ⟨H + 1, 0, none⟩ (.int .i64 6)).setCell ⟨H + 1, 1, none⟩ (.string ⟨#[]⟩)).setCell ⟨H + 1, 2, none⟩ (St anc)).setCell ⟨H + 1, 3, none⟩ (.slice A9 l.length c9)).heap[H]? = some (.cells #[St anc, .int .i64 6, .int .i64 tagAt] 89) := blk_set_ne (blk_set_ne (blk_set_ne (blk_set_ne hp9 (by simp)) (by simp)) (by simp)) (by simp)
      have h10 : rE.At ((((w9.setCell ⟨H + 1, 0, none⟩ (.int .i64 6)).setCell ⟨H + 1, 1, none⟩ (.string ⟨#[]⟩)).setCell ⟨H + 1, 2, none⟩ (St anc)).setCell ⟨H + 1, 3, none⟩ (.slice A9 l.length c9)) g := blk_set_ne (blk_set_ne (blk_set_ne (blk_set_ne h9 (by simp; omega)) (by simp; omega)) (by simp; omega)) (by simp; omega)
      have f10 : Fr (· = g) w.heap.size w ((((w9.setCell ⟨H + 1, 0, none⟩ (.int .i64 6)).setCell ⟨H + 1, 1, none⟩ (.string ⟨#[]⟩)).setCell ⟨H + 1, 2, none⟩ (St anc)).setCell ⟨H + 1, 3, none⟩ (.slice A9 l.length c9)) := (((f9'.setCell (.inl (by simp; omega)) _).setCell (.inl (by simp; omega)) _).setCell (.inl (by simp; omega)) _).setCell (.inl (by simp; omega)) _
      have hj10 : ((((w9.setCell ⟨H + 1, 0, none⟩ (.int .i64 6)).setCell ⟨H + 1, 1, none⟩ (.string ⟨#[]⟩)).setCell ⟨H + 1, 2, none⟩ (St anc)).setCell ⟨H + 1, 3, none⟩ (.slice A9 l.length c9)).heap[H + 1]? = some (.cells #[.int .i64 6, .string ⟨#[]⟩, St anc, .slice A9 l.length c9] 24) := blk_set (blk_set (blk_set (blk_set hj9)))
      have hrowK : ∀ w', (∀ b, b < w9.heap.size → H + 2 ≤ b → w'.heap[b]? = w9.heap[b]?) → Rep1 w' (fun b => w.heap.size ≤ b) (.mk 6 [] anc l) (.agg #[.int .i64 6, St [], St anc, .slice A9 l.length c9]) := fun w' hk => by
        rw [H21.out.2.2.2.1] at hrow9
        exact hrow9.tree (by omega) hk 6 [] anc
      obtain ⟨z0, z1, z2, z3, y0, y1, y2, y3⟩ := cells4 hz10
      obtain ⟨p0, p1, p2, q0, q1, q2⟩ := cells3 hp10
      obtain ⟨j0, j1, j2, j3, k0, k1, k2, k3⟩ := cells4 hj10
      have HR := Lib.hid hrowK
      have H10 := Lib.hid (And.intro h10 (And.intro hz10 (And.intro hj10 f10)))
      have HZ9 := Lib.hid (And.intro hz9 hp9)
      clear hz9 hp9 f9' hz10 hp10 h10 f10 hj10 h9 f9 hrow9 hrowK s0 s1 s2 t0 t1 t2 s0' s1' s2' t0' t1' t2'
      go_wp2_with fail
      have hd := blk_set (i := 3) (v := .slice A9 l.length c9) (blk_set (i := 2) (v := St anc) (blk_set (i := 1) (v := St []) (blk_set (i := 0) (v := .int .i64 6) H10.out.2.1)))
      have e0 := blk_cell hd 0
      have e1 := blk_cell hd 1
      have e2 := blk_cell hd 2
      have e3 := blk_cell hd 3
      exact bodyPost_ret (v := .agg #[.int .i64 6, St [], St anc, .slice A9 l.length c9]) (by simp [results, Tryz.results30, go_sem, e0, e1, e2, e3]) rfl
        ⟨_, rfl, HR.out _ (fun b hb hBb => by (repeat rw [Below.heap_setCell _ _ _ _ (by simp; omega)]); try (first | rfl | exact Below.heap_alloc _ _ _ hb)), blk_set_ne (blk_set_ne (blk_set_ne (blk_set_ne H10.out.1 (by simp; omega)) (by simp; omega)) (by simp; omega)) (by simp; omega), (((H10.out.2.2.2.setCell (.inl (by simp; omega)) _).setCell (.inl (by simp; omega)) _).setCell (.inl (by simp; omega)) _).setCell (.inl (by simp; omega)) _⟩
  · go_enter Tryz.func30, Tryz.ntmps30
    go_wp2_with fail
    refine (hSk _ (by exact HA0.out)).mono ?_
    rintro e w1 ⟨rfl, h1, f1⟩
    have hz1 := blk_fr HZ0.out.1 f1 (blk_lt HZ0.out.1) hFg
    have f1' := HZ0.out.2.call f1 HZ0.out.2.size (fun _ _ h => h)
    go_wp2_with fail
    refine (hPr _ h1).mono ?_
    rintro e w2 ⟨rfl, h2, f2⟩
    have hz2 := blk_fr hz1 f2 (blk_lt hz1) hFg
    have f2' := f1'.call f2 f1'.size (fun _ _ h => h)
    obtain ⟨H, hH⟩ : ∃ H, w2.heap.size = H := ⟨_, rfl⟩
    have hFH : F < H := by rw [← hH]; exact blk_lt hz2
    have h3 : r1.At (w2.alloc (.cells #[St anc, .int .i64 tag, .int .i64 tagAt] 89)) g := blk_alloc h2
    have hz3 : (w2.alloc (.cells #[St anc, .int .i64 tag, .int .i64 tagAt] 89)).heap[F]? = some (.cells #[.int .i64 0, St [], St [], .slice none 0 0] 24) := blk_alloc hz2
    have hp3 : (w2.alloc (.cells #[St anc, .int .i64 tag, .int .i64 tagAt] 89)).heap[H]? = some (.cells #[St anc, .int .i64 tag, .int .i64 tagAt] 89) := by rw [← hH]; exact blk_new _ _
    have f3 : Fr (· = g) w.heap.size w (w2.alloc (.cells #[St anc, .int .i64 tag, .int .i64 tagAt] 89)) := f2'.alloc f2'.size _
    have hHg : H ≠ g := by omega
    have hN42 := hNx [42] _ h3
    have hN91 := hNx [91] _ h3
    have hN123 := hNx [123] _ h3
    obtain ⟨a0, a1, a2, a3, i0, i1, i2, i3⟩ := h3.parts
    obtain ⟨z0, z1, z2, z3, y0, y1, y2, y3⟩ := cells4 hz3
    obtain ⟨p0, p1, p2, q0, q1, q2⟩ := cells3 hp3
    have H3 := Lib.hid (And.intro h3 (And.intro hz3 (And.intro hp3 f3)))
    clear h1 f1 hz1 f1' h2 f2 hz2 f2' h3 hz3 hp3 f3 hNx
    rw [n42] at hN42
    rw [n91] at hN91
    rw [n123] at hN123
    clear n42 n91
    have he20 : Env G (w2.alloc (.cells #[St anc, .int .i64 tag, .int .i64 tagAt] 89)).drew := HEN.out _ H3.out.2.2.2.drew
    have hp20 : (w2.alloc (.cells #[St anc, .int .i64 tag, .int .i64 tagAt] 89)).drew.heap[H]? = some (.cells #[St anc, .int .i64 tag, .int .i64 tagAt] 89) := H3.out.2.2.1
    have hz20 : (w2.alloc (.cells #[St anc, .int .i64 tag, .int .i64 tagAt] 89)).drew.heap[F]? = some (.cells #[.int .i64 0, St [], St [], .slice none 0 0] 24) := H3.out.2.1
    obtain ⟨s0, s1, s2, t0, t1, t2⟩ := cells3 hp20
    have hBz : (w2.alloc (.cells #[St anc, .int .i64 tag, .int .i64 tagAt] 89)).drew.heap.size = H + 1 := by show (w2.alloc _).heap.size = _; rw [World.size_alloc, hH]
    have H20 := Lib.hid (And.intro he20 (And.intro hp20 (And.intro hz20 hBz)))
    have he21 : Env G ((w2.alloc (.cells #[St anc, .int .i64 tag, .int .i64 tagAt] 89)).alloc (.cells #[.int .i64 0, .string ⟨#[]⟩, .string ⟨#[]⟩, .slice none 0 0] 24)).drew := HEN.out _ (H3.out.2.2.2.alloc H3.out.2.2.2.size _).drew
    have h21 : r1.At ((w2.alloc (.cells #[St anc, .int .i64 tag, .int .i64 tagAt] 89)).alloc (.cells #[.int .i64 0, .string ⟨#[]⟩, .string ⟨#[]⟩, .slice none 0 0] 24)).drew g := blk_alloc H3.out.1
    have hp21 : ((w2.alloc (.cells #[St anc, .int .i64 tag, .int .i64 tagAt] 89)).alloc (.cells #[.int .i64 0, .string ⟨#[]⟩, .string ⟨#[]⟩, .slice none 0 0] 24)).drew.heap[H]? = some (.cells #[St anc, .int .i64 tag, .int .i64 tagAt] 89) := blk_alloc H3.out.2.2.1
    have hz21 : ((w2.alloc (.cells #[St anc, .int .i64 tag, .int .i64 tagAt] 89)).alloc (.cells #[.int .i64 0, .string ⟨#[]⟩, .string ⟨#[]⟩, .slice none 0 0] 24)).drew.heap[F]? = some (.cells #[.int .i64 0, St [], St [], .slice none 0 0] 24) := blk_alloc H3.out.2.1
    have hj21 : ((w2.alloc (.cells #[St anc, .int .i64 tag, .int .i64 tagAt] 89)).alloc (.cells #[.int .i64 0, .string ⟨#[]⟩, .string ⟨#[]⟩, .slice none 0 0] 24)).drew.heap[H + 1]? = some (.cells #[.int .i64 0, St [], St [], .slice none 0 0] 24) := by
      have := blk_new1 w2 (.cells #[St anc, .int .i64 tag, .int .i64 tagAt] 89) (.cells #[.int .i64 0, .string ⟨#[]⟩, .string ⟨#[]⟩, .slice none 0 0] 24)
      rw [hH] at this
      exact this
    have hB21 : ((w2.alloc (.cells #[St anc, .int .i64 tag, .int .i64 tagAt] 89)).alloc (.cells #[.int .i64 0, .string ⟨#[]⟩, .string ⟨#[]⟩, .slice none 0 0] 24)).drew.heap.size = H + 2 := by show ((w2.alloc _).alloc _).heap.size = _; rw [World.size_alloc, World.size_alloc, hH]
    have f21 : Fr (· = g) w.heap.size w ((w2.alloc (.cells #[St anc, .int .i64 tag, .int .i64 tagAt] 89)).alloc (.cells #[.int .i64 0, .string ⟨#[]⟩, .string ⟨#[]⟩, .slice none 0 0] 24)).drew := (H3.out.2.2.2.alloc H3.out.2.2.2.size _).drew
    obtain ⟨s0x, s1x, s2x, t0x, t1x, t2x⟩ := cells3 hp21
    have H21 := Lib.hid (And.intro he21 (And.intro hp21 (And.intro hz21 (And.intro hB21 (And.intro h21 (And.intro hj21 f21))))))
    have hJg1 : H + 1 ≠ g := by omega
    clear he20 hp20 hz20 hBz he21 h21 hp21 hz21 hj21 hB21 f21
    go_wp2_with fail
    refine (hN42).mono ?_
    rintro e w4 ⟨rfl, rfl⟩
    go_wp2_with fail
    refine (hN91).mono ?_
    rintro e w4 ⟨rfl, rfl⟩
    go_wp2_with fail
    refine (hN123).mono ?_
    rintro e w4 ⟨rfl, rfl⟩
    go_wp2_with fail
    go_region_with (first | (go_at_call 65; refine (hPt _ (by with_reducible exact H20.out.1) (by exact H3.out.1)).mono ?_; rintro x w9 ⟨v9, rfl, hrow9, h9, f9⟩; obtain ⟨A9, c9, rfl⟩ : ∃ A c, v9 = .slice A l.length c := (let ⟨xs, ho, _⟩ := hrow9; own_slice ho); obtain ⟨s0', s1', s2', t0', t1', t2'⟩ := cells3 (blk_fr H20.out.2.1 f9 (blk_lt H20.out.2.1) hHg); obtain ⟨s0y, s1y, s2y, t0y, t1y, t2y⟩ := cells3 (blk_alloc (x := .cells #[.int .i64 0, .string ⟨#[]⟩, .string ⟨#[]⟩, .slice none 0 0] 24) (blk_fr H20.out.2.1 f9 (blk_lt H20.out.2.1) hHg))) | (go_at_call 65; refine (hPt _ (by with_reducible exact H21.out.1) (by exact H21.out.2.2.2.2.1)).mono ?_; rintro x w9 ⟨v9, rfl, hrow9, h9, f9⟩; obtain ⟨A9, c9, rfl⟩ : ∃ A c, v9 = .slice A l.length c := (let ⟨xs, ho, _⟩ := hrow9; own_slice ho); obtain ⟨s0', s1', s2', t0', t1', t2'⟩ := cells3 (blk_fr H21.out.2.1 f9 (blk_lt H21.out.2.1) hHg); obtain ⟨m0', m1', m2', m3', n0', n1', n2', n3'⟩ := cells4 (blk_fr H21.out.2.2.2.2.2.1 f9 (blk_lt H21.out.2.2.2.2.2.1) hJg1)))
    · have hz9 := blk_fr H20.out.2.2.1 f9 (blk_lt H20.out.2.2.1) hFg
      have hp9 := blk_fr H20.out.2.1 f9 (blk_lt H20.out.2.1) hHg
      have f9' := H3.out.2.2.2.drew.call f9 H3.out.2.2.2.size (fun _ _ h => h)
      obtain ⟨J, hJ⟩ : ∃ J, w9.heap.size = J := ⟨_, rfl⟩
      have hJF : F < J := by rw [← hJ]; exact blk_lt hz9
      have hJH : H < J := by rw [← hJ]; exact blk_lt hp9
      have hJg : J ≠ g := by omega
      have hz10 : (w9.alloc (.cells #[.int .i64 6, St [], St anc, .slice A9 l.length c9] 24)).heap[F]? = some (.cells #[.int .i64 0, St [], St [], .slice none 0 0] 24) := blk_alloc hz9
      have hp10 : (w9.alloc (.cells #[.int .i64 6, St [], St anc, .slice A9 l.length c9] 24)).heap[H]? = some (.cells #[St anc, .int .i64 tag, .int .i64 tagAt] 89) := blk_alloc hp9
      have h10 : r2.At (w9.alloc (.cells #[.int .i64 6, St [], St anc, .slice A9 l.length c9] 24)) g := blk_alloc h9
      have f10 : Fr (· = g) w.heap.size w (w9.alloc (.cells #[.int .i64 6, St [], St anc, .slice A9 l.length c9] 24)) := f9'.alloc f9'.size _
      have hj10 : (w9.alloc (.cells #[.int .i64 6, St [], St anc, .slice A9 l.length c9] 24)).heap[J]? = some (.cells #[.int .i64 6, St [], St anc, .slice A9 l.length c9] 24) := by rw [← hJ]; exact blk_new _ _
      have hrowK : ∀ w', (∀ b, b < w9.heap.size → H + 1 ≤ b → w'.heap[b]? = w9.heap[b]?) → Rep1 w' (fun b => w.heap.size ≤ b) (.mk 6 [] anc l) (.agg #[.int .i64 6, St [], St anc, .slice A9 l.length c9]) := fun w' hk => by
        rw [H20.out.2.2.2] at hrow9
        exact hrow9.tree (by omega) hk 6 [] anc
      obtain ⟨z0, z1, z2, z3, y0, y1, y2, y3⟩ := cells4 hz10
      obtain ⟨p0, p1, p2, q0, q1, q2⟩ := cells3 hp10
      obtain ⟨j0, j1, j2, j3, k0, k1, k2, k3⟩ := cells4 hj10
      have HR := Lib.hid hrowK
      have H10 := Lib.hid (And.intro h10 (And.intro hz10 (And.intro hj10 f10)))
      have HZ9 := Lib.hid (And.intro hz9 hp9)
      clear hz9 hp9 f9' hz10 hp10 h10 f10 hj10 h9 f9 hrow9 hrowK s0 s1 s2 t0 t1 t2 s0' s1' s2' t0' t1' t2'
      go_wp2_with fail
      refine (hWr _ (by exact H10.out.1)).mono ?_
      rintro e w11 ⟨rfl, h11, f11⟩
      have hz11 := blk_fr H10.out.2.1 f11 (blk_lt H10.out.2.1) hFg
      have hj11 := blk_fr H10.out.2.2.1 f11 (blk_lt H10.out.2.2.1) hJg
      have f11' := H10.out.2.2.2.call f11 H10.out.2.2.2.size (fun _ _ h => h)
      clear z0 z1 z2 z3 y0 y1 y2 y3 j0 j1 j2 j3 k0 k1 k2 k3
      obtain ⟨z0, z1, z2, z3, y0, y1, y2, y3⟩ := cells4 hz11
      obtain ⟨j0, j1, j2, j3, k0, k1, k2, k3⟩ := cells4 hj11
      have H11 := Lib.hid (And.intro h11 (And.intro hz11 (And.intro f11 f11')))
      clear h11 hz11 f11 f11'
      go_wp2_with fail
      have hd := blk_set (i := 3) (v := .slice A9 l.length c9) (blk_set (i := 2) (v := St anc) (blk_set (i := 1) (v := St []) (blk_set (i := 0) (v := .int .i64 6) H11.out.2.1)))
      have e0 := blk_cell hd 0
      have e1 := blk_cell hd 1
      have e2 := blk_cell hd 2
      have e3 := blk_cell hd 3
      exact bodyPost_ret (v := .agg #[.int .i64 6, St [], St anc, .slice A9 l.length c9]) (by simp [results, Tryz.results30, go_sem, e0, e1, e2, e3]) rfl
        ⟨_, rfl, HR.out _ (fun b hb hBb => by (repeat rw [Below.heap_setCell _ _ _ _ (by simp; omega)]); rw [H11.out.2.2.1.block b (by simp; omega) (by omega)]; (repeat rw [Below.heap_setCell _ _ _ _ (by simp; omega)]); try (first | rfl | exact Below.heap_alloc _ _ _ hb)), blk_set_ne (blk_set_ne (blk_set_ne (blk_set_ne H11.out.1 (by simp; omega)) (by simp; omega)) (by simp; omega)) (by simp; omega), (((H11.out.2.2.2.setCell (.inl (by simp; omega)) _).setCell (.inl (by simp; omega)) _).setCell (.inl (by simp; omega)) _).setCell (.inl (by simp; omega)) _⟩
    · have hz9 := blk_fr H21.out.2.2.1 f9 (blk_lt H21.out.2.2.1) hFg
      have hp9 := blk_fr H21.out.2.1 f9 (blk_lt H21.out.2.1) hHg
      have hj9 := blk_fr H21.out.2.2.2.2.2.1 f9 (blk_lt H21.out.2.2.2.2.2.1) hJg1
      have f9' := H21.out.2.2.2.2.2.2.call f9 H21.out.2.2.2.2.2.2.size (fun _ _ h => h)
      have hJg := hJg1
      have hz10 : ((((w9.setCell ⟨H + 1, 0, none⟩ (.int .i64 6)).setCell ⟨H + 1, 1, none⟩ (.string ⟨#[]⟩)).setCell ⟨H + 1, 2, none⟩ (St anc)).setCell ⟨H + 1, 3, none⟩ (.slice A9 l.length c9)).heap[F]? = some (.cells #[.int .i64 0, St [], St [], .slice none 0 0] 24) := blk_set_ne (blk_set_ne (blk_set_ne (blk_set_ne hz9 (by simp; omega)) (by simp; omega)) (by simp; omega)) (by simp; omega)
      have hp10 : ((((w9.setCell ⟨H + 1, 0, none⟩ (.int .i64 6)).setCell ⟨H + 1, 1, none⟩ (.string ⟨#[]⟩)).setCell ⟨H + 1, 2, none⟩ (St anc)).setCell ⟨H + 1, 3, none⟩ (.slice A9 l.length c9)).heap[H]? = some (.cells #[St anc, .int .i64 tag, .int .i64 tagAt] 89) := blk_set_ne (blk_set_ne (blk_set_ne (blk_set_ne hp9 (by simp)) (by simp)) (by simp)) (by simp)
      have h10 : r2.At ((((w9.setCell ⟨H + 1, 0, none⟩ (.int .i64 6)).setCell ⟨H + 1, 1, none⟩ (.string ⟨#[]⟩)).setCell ⟨H + 1, 2, none⟩ (St anc)).setCell ⟨H + 1, 3, none⟩ (.slice A9 l.length c9)) g := blk_set_ne (blk_set_ne (blk_set_ne (blk_set_ne h9 (by simp; omega)) (by simp; omega)) (by simp; omega)) (by simp; omega)
      have f10 : Fr (· = g) w.heap.size w ((((w9.setCell ⟨H + 1, 0, none⟩ (.int .i64 6)).setCell ⟨H + 1, 1, none⟩ (.string ⟨#[]⟩)).setCell ⟨H + 1, 2, none⟩ (St anc)).setCell ⟨H + 1, 3, none⟩ (.slice A9 l.length c9)) := (((f9'.setCell (.inl (by simp; omega)) _).setCell (.inl (by simp; omega)) _).setCell (.inl (by simp; omega)) _).setCell (.inl (by simp; omega)) _
      have hj10 : ((((w9.setCell ⟨H + 1, 0, none⟩ (.int .i64 6)).setCell ⟨H + 1, 1, none⟩ (.string ⟨#[]⟩)).setCell ⟨H + 1, 2, none⟩ (St anc)).setCell ⟨H + 1, 3, none⟩ (.slice A9 l.length c9)).heap[H + 1]? = some (.cells #[.int .i64 6, .string ⟨#[]⟩, St anc, .slice A9 l.length c9] 24) := blk_set (blk_set (blk_set (blk_set hj9)))
      have hrowK : ∀ w', (∀ b, b < w9.heap.size → H + 2 ≤ b → w'.heap[b]? = w9.heap[b]?) → Rep1 w' (fun b => w.heap.size ≤ b) (.mk 6 [] anc l) (.agg #[.int .i64 6, St [], St anc, .slice A9 l.length c9]) := fun w' hk => by
        rw [H21.out.2.2.2.1] at hrow9
        exact hrow9.tree (by omega) hk 6 [] anc
      obtain ⟨z0, z1, z2, z3, y0, y1, y2, y3⟩ := cells4 hz10
      obtain ⟨p0, p1, p2, q0, q1, q2⟩ := cells3 hp10
      obtain ⟨j0, j1, j2, j3, k0, k1, k2, k3⟩ := cells4 hj10
      have HR := Lib.hid hrowK
      have H10 := Lib.hid (And.intro h10 (And.intro hz10 (And.intro hj10 f10)))
      have HZ9 := Lib.hid (And.intro hz9 hp9)
      clear hz9 hp9 f9' hz10 hp10 h10 f10 hj10 h9 f9 hrow9 hrowK s0 s1 s2 t0 t1 t2 s0' s1' s2' t0' t1' t2'
      go_wp2_with fail
      refine (hWr _ (by exact H10.out.1)).mono ?_
      rintro e w11 ⟨rfl, h11, f11⟩
      have hz11 := blk_fr H10.out.2.1 f11 (blk_lt H10.out.2.1) hFg
      have hj11 := blk_fr H10.out.2.2.1 f11 (blk_lt H10.out.2.2.1) hJg
      have f11' := H10.out.2.2.2.call f11 H10.out.2.2.2.size (fun _ _ h => h)
      clear z0 z1 z2 z3 y0 y1 y2 y3 j0 j1 j2 j3 k0 k1 k2 k3
      obtain ⟨z0, z1, z2, z3, y0, y1, y2, y3⟩ := cells4 hz11
      obtain ⟨j0, j1, j2, j3, k0, k1, k2, k3⟩ := cells4 hj11
      have H11 := Lib.hid (And.intro h11 (And.intro hz11 (And.intro f11 f11')))
      clear h11 hz11 f11 f11'
      go_wp2_with fail
      have hd := blk_set (i := 3) (v := .slice A9 l.length c9) (blk_set (i := 2) (v := St anc) (blk_set (i := 1) (v := St []) (blk_set (i := 0) (v := .int .i64 6) H11.out.2.1)))
      have e0 := blk_cell hd 0
      have e1 := blk_cell hd 1
      have e2 := blk_cell hd 2
      have e3 := blk_cell hd 3
      exact bodyPost_ret (v := .agg #[.int .i64 6, St [], St anc, .slice A9 l.length c9]) (by simp [results, Tryz.results30, go_sem, e0, e1, e2, e3]) rfl
        ⟨_, rfl, HR.out _ (fun b hb hBb => by (repeat rw [Below.heap_setCell _ _ _ _ (by simp; omega)]); rw [H11.out.2.2.1.block b (by simp; omega) (by omega)]; (repeat rw [Below.heap_setCell _ _ _ _ (by simp; omega)]); try (first | rfl | exact Below.heap_alloc _ _ _ hb)), blk_set_ne (blk_set_ne (blk_set_ne (blk_set_ne H11.out.1 (by simp; omega)) (by simp; omega)) (by simp; omega)) (by simp; omega), (((H11.out.2.2.2.setCell (.inl (by simp; omega)) _).setCell (.inl (by simp; omega)) _).setCell (.inl (by simp; omega)) _).setCell (.inl (by simp; omega)) _⟩
    · have hz9 := blk_fr H20.out.2.2.1 f9 (blk_lt H20.out.2.2.1) hFg
      have hp9 := blk_fr H20.out.2.1 f9 (blk_lt H20.out.2.1) hHg
      have f9' := H3.out.2.2.2.drew.call f9 H3.out.2.2.2.size (fun _ _ h => h)
      obtain ⟨J, hJ⟩ : ∃ J, w9.heap.size = J := ⟨_, rfl⟩
      have hJF : F < J := by rw [← hJ]; exact blk_lt hz9
      have hJH : H < J := by rw [← hJ]; exact blk_lt hp9
      have hJg : J ≠ g := by omega
      have hz10 : (w9.alloc (.cells #[.int .i64 6, St [], St anc, .slice A9 l.length c9] 24)).heap[F]? = some (.cells #[.int .i64 0, St [], St [], .slice none 0 0] 24) := blk_alloc hz9
      have hp10 : (w9.alloc (.cells #[.int .i64 6, St [], St anc, .slice A9 l.length c9] 24)).heap[H]? = some (.cells #[St anc, .int .i64 tag, .int .i64 tagAt] 89) := blk_alloc hp9
      have h10 : r2.At (w9.alloc (.cells #[.int .i64 6, St [], St anc, .slice A9 l.length c9] 24)) g := blk_alloc h9
      have f10 : Fr (· = g) w.heap.size w (w9.alloc (.cells #[.int .i64 6, St [], St anc, .slice A9 l.length c9] 24)) := f9'.alloc f9'.size _
      have hj10 : (w9.alloc (.cells #[.int .i64 6, St [], St anc, .slice A9 l.length c9] 24)).heap[J]? = some (.cells #[.int .i64 6, St [], St anc, .slice A9 l.length c9] 24) := by rw [← hJ]; exact blk_new _ _
      have hrowK : ∀ w', (∀ b, b < w9.heap.size → H + 1 ≤ b → w'.heap[b]? = w9.heap[b]?) → Rep1 w' (fun b => w.heap.size ≤ b) (.mk 6 [] anc l) (.agg #[.int .i64 6, St [], St anc, .slice A9 l.length c9]) := fun w' hk => by
        rw [H20.out.2.2.2] at hrow9
        exact hrow9.tree (by omega) hk 6 [] anc
      obtain ⟨z0, z1, z2, z3, y0, y1, y2, y3⟩ := cells4 hz10
      obtain ⟨p0, p1, p2, q0, q1, q2⟩ := cells3 hp10
      obtain ⟨j0, j1, j2, j3, k0, k1, k2, k3⟩ := cells4 hj10
      have HR := Lib.hid hrowK
      have H10 := Lib.hid (And.intro h10 (And.intro hz10 (And.intro hj10 f10)))
      have HZ9 := Lib.hid (And.intro hz9 hp9)
      clear hz9 hp9 f9' hz10 hp10 h10 f10 hj10 h9 f9 hrow9 hrowK s0 s1 s2 t0 t1 t2 s0' s1' s2' t0' t1' t2'
      go_wp2_with fail
      refine (hWr _ (by exact H10.out.1)).mono ?_
      rintro e w11 ⟨rfl, h11, f11⟩
      have hz11 := blk_fr H10.out.2.1 f11 (blk_lt H10.out.2.1) hFg
      have hj11 := blk_fr H10.out.2.2.1 f11 (blk_lt H10.out.2.2.1) hJg
      have f11' := H10.out.2.2.2.call f11 H10.out.2.2.2.size (fun _ _ h => h)
      clear z0 z1 z2 z3 y0 y1 y2 y3 j0 j1 j2 j3 k0 k1 k2 k3
      obtain ⟨z0, z1, z2, z3, y0, y1, y2, y3⟩ := cells4 hz11
      obtain ⟨j0, j1, j2, j3, k0, k1, k2, k3⟩ := cells4 hj11
      have H11 := Lib.hid (And.intro h11 (And.intro hz11 (And.intro f11 f11')))
      clear h11 hz11 f11 f11'
      go_wp2_with fail
      have hd := blk_set (i := 3) (v := .slice A9 l.length c9) (blk_set (i := 2) (v := St anc) (blk_set (i := 1) (v := St []) (blk_set (i := 0) (v := .int .i64 6) H11.out.2.1)))
      have e0 := blk_cell hd 0
      have e1 := blk_cell hd 1
      have e2 := blk_cell hd 2
      have e3 := blk_cell hd 3
      exact bodyPost_ret (v := .agg #[.int .i64 6, St [], St anc, .slice A9 l.length c9]) (by simp [results, Tryz.results30, go_sem, e0, e1, e2, e3]) rfl
        ⟨_, rfl, HR.out _ (fun b hb hBb => by (repeat rw [Below.heap_setCell _ _ _ _ (by simp; omega)]); rw [H11.out.2.2.1.block b (by simp; omega) (by omega)]; (repeat rw [Below.heap_setCell _ _ _ _ (by simp; omega)]); try (first | rfl | exact Below.heap_alloc _ _ _ hb)), blk_set_ne (blk_set_ne (blk_set_ne (blk_set_ne H11.out.1 (by simp; omega)) (by simp; omega)) (by simp; omega)) (by simp; omega), (((H11.out.2.2.2.setCell (.inl (by simp; omega)) _).setCell (.inl (by simp; omega)) _).setCell (.inl (by simp; omega)) _).setCell (.inl (by simp; omega)) _⟩
    · have hz9 := blk_fr H20.out.2.2.1 f9 (blk_lt H20.out.2.2.1) hFg
      have hp9 := blk_fr H20.out.2.1 f9 (blk_lt H20.out.2.1) hHg
      have f9' := H3.out.2.2.2.drew.call f9 H3.out.2.2.2.size (fun _ _ h => h)
      obtain ⟨J, hJ⟩ : ∃ J, w9.heap.size = J := ⟨_, rfl⟩
      have hJF : F < J := by rw [← hJ]; exact blk_lt hz9
      have hJH : H < J := by rw [← hJ]; exact blk_lt hp9
      have hJg : J ≠ g := by omega
      have hz10 : (w9.alloc (.cells #[.int .i64 6, St [], St anc, .slice A9 l.length c9] 24)).heap[F]? = some (.cells #[.int .i64 0, St [], St [], .slice none 0 0] 24) := blk_alloc hz9
      have hp10 : (w9.alloc (.cells #[.int .i64 6, St [], St anc, .slice A9 l.length c9] 24)).heap[H]? = some (.cells #[St anc, .int .i64 tag, .int .i64 tagAt] 89) := blk_alloc hp9
      have h10 : r2.At (w9.alloc (.cells #[.int .i64 6, St [], St anc, .slice A9 l.length c9] 24)) g := blk_alloc h9
      have f10 : Fr (· = g) w.heap.size w (w9.alloc (.cells #[.int .i64 6, St [], St anc, .slice A9 l.length c9] 24)) := f9'.alloc f9'.size _
      have hj10 : (w9.alloc (.cells #[.int .i64 6, St [], St anc, .slice A9 l.length c9] 24)).heap[J]? = some (.cells #[.int .i64 6, St [], St anc, .slice A9 l.length c9] 24) := by rw [← hJ]; exact blk_new _ _
      have hrowK : ∀ w', (∀ b, b < w9.heap.size → H + 1 ≤ b → w'.heap[b]? = w9.heap[b]?) → Rep1 w' (fun b => w.heap.size ≤ b) (.mk 6 [] anc l) (.agg #[.int .i64 6, St [], St anc, .slice A9 l.length c9]) := fun w' hk => by
        rw [H20.out.2.2.2] at hrow9
        exact hrow9.tree (by omega) hk 6 [] anc
      obtain ⟨z0, z1, z2, z3, y0, y1, y2, y3⟩ := cells4 hz10
      obtain ⟨p0, p1, p2, q0, q1, q2⟩ := cells3 hp10
      obtain ⟨j0, j1, j2, j3, k0, k1, k2, k3⟩ := cells4 hj10
      have HR := Lib.hid hrowK
      have H10 := Lib.hid (And.intro h10 (And.intro hz10 (And.intro hj10 f10)))
      have HZ9 := Lib.hid (And.intro hz9 hp9)
      clear hz9 hp9 f9' hz10 hp10 h10 f10 hj10 h9 f9 hrow9 hrowK s0 s1 s2 t0 t1 t2 s0' s1' s2' t0' t1' t2'
      go_wp2_with fail
      refine (hWr _ (by exact H10.out.1)).mono ?_
      rintro e w11 ⟨rfl, h11, f11⟩
      have hz11 := blk_fr H10.out.2.1 f11 (blk_lt H10.out.2.1) hFg
      have hj11 := blk_fr H10.out.2.2.1 f11 (blk_lt H10.out.2.2.1) hJg
      have f11' := H10.out.2.2.2.call f11 H10.out.2.2.2.size (fun _ _ h => h)
      clear z0 z1 z2 z3 y0 y1 y2 y3 j0 j1 j2 j3 k0 k1 k2 k3
      obtain ⟨z0, z1, z2, z3, y0, y1, y2, y3⟩ := cells4 hz11
      obtain ⟨j0, j1, j2, j3, k0, k1, k2, k3⟩ := cells4 hj11
      have H11 := Lib.hid (And.intro h11 (And.intro hz11 (And.intro f11 f11')))
      clear h11 hz11 f11 f11'
      go_wp2_with fail
      have hd := blk_set (i := 3) (v := .slice A9 l.length c9) (blk_set (i := 2) (v := St anc) (blk_set (i := 1) (v := St []) (blk_set (i := 0) (v := .int .i64 6) H11.out.2.1)))
      have e0 := blk_cell hd 0
      have e1 := blk_cell hd 1
      have e2 := blk_cell hd 2
      have e3 := blk_cell hd 3
      exact bodyPost_ret (v := .agg #[.int .i64 6, St [], St anc, .slice A9 l.length c9]) (by simp [results, Tryz.results30, go_sem, e0, e1, e2, e3]) rfl
        ⟨_, rfl, HR.out _ (fun b hb hBb => by (repeat rw [Below.heap_setCell _ _ _ _ (by simp; omega)]); rw [H11.out.2.2.1.block b (by simp; omega) (by omega)]; (repeat rw [Below.heap_setCell _ _ _ _ (by simp; omega)]); try (first | rfl | exact Below.heap_alloc _ _ _ hb)), blk_set_ne (blk_set_ne (blk_set_ne (blk_set_ne H11.out.1 (by simp; omega)) (by simp; omega)) (by simp; omega)) (by simp; omega), (((H11.out.2.2.2.setCell (.inl (by simp; omega)) _).setCell (.inl (by simp; omega)) _).setCell (.inl (by simp; omega)) _).setCell (.inl (by simp; omega)) _⟩
    · have hz9 := blk_fr H21.out.2.2.1 f9 (blk_lt H21.out.2.2.1) hFg
      have hp9 := blk_fr H21.out.2.1 f9 (blk_lt H21.out.2.1) hHg
      have hj9 := blk_fr H21.out.2.2.2.2.2.1 f9 (blk_lt H21.out.2.2.2.2.2.1) hJg1
      have f9' := H21.out.2.2.2.2.2.2.call f9 H21.out.2.2.2.2.2.2.size (fun _ _ h => h)
      have hJg := hJg1
      have hz10 : ((((w9.setCell ⟨H + 1, 0, none⟩ (.int .i64 6)).setCell ⟨H + 1, 1, none⟩ (.string ⟨#[]⟩)).setCell ⟨H + 1, 2, none⟩ (St anc)).setCell ⟨H + 1, 3, none⟩ (.slice A9 l.length c9)).heap[F]? = some (.cells #[.int .i64 0, St [], St [], .slice none 0 0] 24) := blk_set_ne (blk_set_ne (blk_set_ne (blk_set_ne hz9 (by simp; omega)) (by simp; omega)) (by simp; omega)) (by simp; omega)
      have hp10 : ((((w9.setCell ⟨H + 1, 0, none⟩ (.int .i64 6)).setCell ⟨H + 1, 1, none⟩ (.string ⟨#[]⟩)).setCell ⟨H + 1, 2, none⟩ (St anc)).setCell ⟨H + 1, 3, none⟩ (.slice A9 l.length c9)).heap[H]? = some (.cells #[St anc, .int .i64 tag, .int .i64 tagAt] 89) := blk_set_ne (blk_set_ne (blk_set_ne (blk_set_ne hp9 (by simp)) (by simp)) (by simp)) (by simp)
      have h10 : r2.At ((((w9.setCell ⟨H + 1, 0, none⟩ (.int .i64 6)).setCell ⟨H + 1, 1, none⟩ (.string ⟨#[]⟩)).setCell ⟨H + 1, 2, none⟩ (St anc)).setCell ⟨H + 1, 3, none⟩ (.slice A9 l.length c9)) g := blk_set_ne (blk_set_ne (blk_set_ne (blk_set_ne h9 (by simp; omega)) (by simp; omega)) (by simp; omega)) (by simp; omega)
      have f10 : Fr (· = g) w.heap.size w ((((w9.setCell ⟨H + 1, 0, none⟩ (.int .i64 6)).setCell ⟨H + 1, 1, none⟩ (.string ⟨#[]⟩)).setCell ⟨H + 1, 2, none⟩ (St anc)).setCell ⟨H + 1, 3, none⟩ (.slice A9 l.length c9)) := (((f9'.setCell (.inl (by simp; omega)) _).setCell (.inl (by simp; omega)) _).setCell (.inl (by simp; omega)) _).setCell (.inl (by simp; omega)) _
      have hj10 : ((((w9.setCell ⟨H + 1, 0, none⟩ (.int .i64 6)).setCell ⟨H + 1, 1, none⟩ (.string ⟨#[]⟩)).setCell ⟨H + 1, 2, none⟩ (St anc)).setCell ⟨H + 1, 3, none⟩ (.slice A9 l.length c9)).heap[H + 1]? = some (.cells #[.int .i64 6, .string ⟨#[]⟩, St anc, .slice A9 l.length c9] 24) := blk_set (blk_set (blk_set (blk_set hj9)))
      have hrowK : ∀ w', (∀ b, b < w9.heap.size → H + 2 ≤ b → w'.heap[b]? = w9.heap[b]?) → Rep1 w' (fun b => w.heap.size ≤ b) (.mk 6 [] anc l) (.agg #[.int .i64 6, St [], St anc, .slice A9 l.length c9]) := fun w' hk => by
        rw [H21.out.2.2.2.1] at hrow9
        exact hrow9.tree (by omega) hk 6 [] anc
      obtain ⟨z0, z1, z2, z3, y0, y1, y2, y3⟩ := cells4 hz10
      obtain ⟨p0, p1, p2, q0, q1, q2⟩ := cells3 hp10
      obtain ⟨j0, j1, j2, j3, k0, k1, k2, k3⟩ := cells4 hj10
      have HR := Lib.hid hrowK
      have H10 := Lib.hid (And.intro h10 (And.intro hz10 (And.intro hj10 f10)))
      have HZ9 := Lib.hid (And.intro hz9 hp9)
      clear hz9 hp9 f9' hz10 hp10 h10 f10 hj10 h9 f9 hrow9 hrowK s0 s1 s2 t0 t1 t2 s0' s1' s2' t0' t1' t2'
      go_wp2_with fail
      refine (hWr _ (by exact H10.out.1)).mono ?_
      rintro e w11 ⟨rfl, h11, f11⟩
      have hz11 := blk_fr H10.out.2.1 f11 (blk_lt H10.out.2.1) hFg
      have hj11 := blk_fr H10.out.2.2.1 f11 (blk_lt H10.out.2.2.1) hJg
      have f11' := H10.out.2.2.2.call f11 H10.out.2.2.2.size (fun _ _ h => h)
      clear z0 z1 z2 z3 y0 y1 y2 y3 j0 j1 j2 j3 k0 k1 k2 k3
      obtain ⟨z0, z1, z2, z3, y0, y1, y2, y3⟩ := cells4 hz11
      obtain ⟨j0, j1, j2, j3, k0, k1, k2, k3⟩ := cells4 hj11
      have H11 := Lib.hid (And.intro h11 (And.intro hz11 (And.intro f11 f11')))
      clear h11 hz11 f11 f11'
      go_wp2_with fail
      have hd := blk_set (i := 3) (v := .slice A9 l.length c9) (blk_set (i := 2) (v := St anc) (blk_set (i := 1) (v := St []) (blk_set (i := 0) (v := .int .i64 6) H11.out.2.1)))
      have e0 := blk_cell hd 0
      have e1 := blk_cell hd 1
      have e2 := blk_cell hd 2
      have e3 := blk_cell hd 3
      exact bodyPost_ret (v := .agg #[.int .i64 6, St [], St anc, .slice A9 l.length c9]) (by simp [results, Tryz.results30, go_sem, e0, e1, e2, e3]) rfl
        ⟨_, rfl, HR.out _ (fun b hb hBb => by (repeat rw [Below.heap_setCell _ _ _ _ (by simp; omega)]); rw [H11.out.2.2.1.block b (by simp; omega) (by omega)]; (repeat rw [Below.heap_setCell _ _ _ _ (by simp; omega)]); try (first | rfl | exact Below.heap_alloc _ _ _ hb)), blk_set_ne (blk_set_ne (blk_set_ne (blk_set_ne H11.out.1 (by simp; omega)) (by simp; omega)) (by simp; omega)) (by simp; omega), (((H11.out.2.2.2.setCell (.inl (by simp; omega)) _).setCell (.inl (by simp; omega)) _).setCell (.inl (by simp; omega)) _).setCell (.inl (by simp; omega)) _⟩
    · have hz9 := blk_fr H21.out.2.2.1 f9 (blk_lt H21.out.2.2.1) hFg
      have hp9 := blk_fr H21.out.2.1 f9 (blk_lt H21.out.2.1) hHg
      have hj9 := blk_fr H21.out.2.2.2.2.2.1 f9 (blk_lt H21.out.2.2.2.2.2.1) hJg1
      have f9' := H21.out.2.2.2.2.2.2.call f9 H21.out.2.2.2.2.2.2.size (fun _ _ h => h)
      have hJg := hJg1
      have hz10 : ((((w9.setCell ⟨H + 1, 0, none⟩ (.int .i64 6)).setCell ⟨H + 1, 1, none⟩ (.string ⟨#[]⟩)).setCell ⟨H + 1, 2, none⟩ (St anc)).setCell ⟨H + 1, 3, none⟩ (.slice A9 l.length c9)).heap[F]? = some (.cells #[.int .i64 0, St [], St [], .slice none 0 0] 24) := blk_set_ne (blk_set_ne (blk_set_ne (blk_set_ne hz9 (by simp; omega)) (by simp; omega)) (by simp; omega)) (by simp; omega)
      have hp10 : ((((w9.setCell ⟨H + 1, 0, none⟩ (.int .i64 6)).setCell ⟨H + 1, 1, none⟩ (.string ⟨#[]⟩)).setCell ⟨H + 1, 2, none⟩ (St anc)).setCell ⟨H + 1, 3, none⟩ (.slice A9 l.length c9)).heap[H]? = some (.cells #[St anc, .int .i64 tag, .int .i64 tagAt] 89) := blk_set_ne (blk_set_ne (blk_set_ne (blk_set_ne hp9 (by simp)) (by simp)) (by simp)) (by simp)
      have h10 : r2.At ((((w9.setCell ⟨H + 1, 0, none⟩ (.int .i64 6)).setCell ⟨H + 1, 1, none⟩ (.string ⟨#[]⟩)).setCell ⟨H + 1, 2, none⟩ (St anc)).setCell ⟨H + 1, 3, none⟩ (.slice A9 l.length c9)) g := blk_set_ne (blk_set_ne (blk_set_ne (blk_set_ne h9 (by simp; omega)) (by simp; omega)) (by simp; omega)) (by simp; omega)
      have f10 : Fr (· = g) w.heap.size w ((((w9.setCell ⟨H + 1, 0, none⟩ (.int .i64 6)).setCell ⟨H + 1, 1, none⟩ (.string ⟨#[]⟩)).setCell ⟨H + 1, 2, none⟩ (St anc)).setCell ⟨H + 1, 3, none⟩ (.slice A9 l.length c9)) := (((f9'.setCell (.inl (by simp; omega)) _).setCell (.inl (by simp; omega)) _).setCell (.inl (by simp; omega)) _).setCell (.inl (by simp; omega)) _
      have hj10 : ((((w9.setCell ⟨H + 1, 0, none⟩ (.int .i64 6)).setCell ⟨H + 1, 1, none⟩ (.string ⟨#[]⟩)).setCell ⟨H + 1, 2, none⟩ (St anc)).setCell ⟨H + 1, 3, none⟩ (.slice A9 l.length c9)).heap[H + 1]? = some (.cells #[.int .i64 6, .string ⟨#[]⟩, St anc, .slice A9 l.length c9] 24) := blk_set (blk_set (blk_set (blk_set hj9)))
      have hrowK : ∀ w', (∀ b, b < w9.heap.size → H + 2 ≤ b → w'.heap[b]? = w9.heap[b]?) → Rep1 w' (fun b => w.heap.size ≤ b) (.mk 6 [] anc l) (.agg #[.int .i64 6, St [], St anc, .slice A9 l.length c9]) := fun w' hk => by
        rw [H21.out.2.2.2.1] at hrow9
        exact hrow9.tree (by omega) hk 6 [] anc
      obtain ⟨z0, z1, z2, z3, y0, y1, y2, y3⟩ := cells4 hz10
      obtain ⟨p0, p1, p2, q0, q1, q2⟩ := cells3 hp10
      obtain ⟨j0, j1, j2, j3, k0, k1, k2, k3⟩ := cells4 hj10
      have HR := Lib.hid hrowK
      have H10 := Lib.hid (And.intro h10 (And.intro hz10 (And.intro hj10 f10)))
      have HZ9 := Lib.hid (And.intro hz9 hp9)
      clear hz9 hp9 f9' hz10 hp10 h10 f10 hj10 h9 f9 hrow9 hrowK s0 s1 s2 t0 t1 t2 s0' s1' s2' t0' t1' t2'
      go_wp2_with fail
      refine (hWr _ (by exact H10.out.1)).mono ?_
      rintro e w11 ⟨rfl, h11, f11⟩
      have hz11 := blk_fr H10.out.2.1 f11 (blk_lt H10.out.2.1) hFg
      have hj11 := blk_fr H10.out.2.2.1 f11 (blk_lt H10.out.2.2.1) hJg
      have f11' := H10.out.2.2.2.call f11 H10.out.2.2.2.size (fun _ _ h => h)
      clear z0 z1 z2 z3 y0 y1 y2 y3 j0 j1 j2 j3 k0 k1 k2 k3
      obtain ⟨z0, z1, z2, z3, y0, y1, y2, y3⟩ := cells4 hz11
      obtain ⟨j0, j1, j2, j3, k0, k1, k2, k3⟩ := cells4 hj11
      have H11 := Lib.hid (And.intro h11 (And.intro hz11 (And.intro f11 f11')))
      clear h11 hz11 f11 f11'
      go_wp2_with fail
      have hd := blk_set (i := 3) (v := .slice A9 l.length c9) (blk_set (i := 2) (v := St anc) (blk_set (i := 1) (v := St []) (blk_set (i := 0) (v := .int .i64 6) H11.out.2.1)))
      have e0 := blk_cell hd 0
      have e1 := blk_cell hd 1
      have e2 := blk_cell hd 2
      have e3 := blk_cell hd 3
      exact bodyPost_ret (v := .agg #[.int .i64 6, St [], St anc, .slice A9 l.length c9]) (by simp [results, Tryz.results30, go_sem, e0, e1, e2, e3]) rfl
        ⟨_, rfl, HR.out _ (fun b hb hBb => by (repeat rw [Below.heap_setCell _ _ _ _ (by simp; omega)]); rw [H11.out.2.2.1.block b (by simp; omega) (by omega)]; (repeat rw [Below.heap_setCell _ _ _ _ (by simp; omega)]); try (first | rfl | exact Below.heap_alloc _ _ _ hb)), blk_set_ne (blk_set_ne (blk_set_ne (blk_set_ne H11.out.1 (by simp; omega)) (by simp; omega)) (by simp; omega)) (by simp; omega), (((H11.out.2.2.2.setCell (.inl (by simp; omega)) _).setCell (.inl (by simp; omega)) _).setCell (.inl (by simp; omega)) _).setCell (.inl (by simp; omega)) _⟩
end Go.Proofs.YtbmonfcahhhdeaaGreatDoor
