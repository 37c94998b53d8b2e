/- The walk of the reader's value: its ways. -/
import Derived.Test.YtbmonfcahhhdeaaGreatDoorFRdI
set_option linter.unusedVariables false
set_option linter.unusedSimpArgs false
namespace Go.Proofs.YtbmonfcahhhdeaaGreatDoor
open Go.RowKit

theorem Row.tree {B H : Nat} {l : List T} {v : Value} {wX w' : World} (h : Row B l v wX) (hH : H ≤ B) (hk : ∀ b, b < wX.heap.size → B ≤ b → w'.heap[b]? = wX.heap[b]?) (k : Int) (t a : Bs) :
    Rep1 w' (fun b => H ≤ b) (.mk k t a l) (.agg #[.int .i64 k, St t, St a, v]) := by
  obtain ⟨xs, ho, hr⟩ := h
  refine ⟨_, _, _, _, rfl, .cons k t a l v xs [] [] B ?_ (fun b hb => Nat.le_trans hH (own_base ho b hb)) (hr.keep (fun b hb hK => hk b hb hK.1) fun b hb hK => Nat.le_trans hH hK.1) .nil⟩
  obtain ⟨h1, h2⟩ := ho
  refine ⟨h1, ?_⟩
  rcases h2 with h2 | ⟨g, cap, cur, rfl, hg, hh, r⟩
  · exact .inl h2
  · exact .inr ⟨g, cap, cur, rfl, hg, (hk g (blk_lt hh) hg).trans hh, r⟩
theorem rep_leaf (w' : World) (K : Nat → Prop) (k : Int) (t a : Bs) : Rep1 w' K (.mk k t a []) (.agg #[.int .i64 k, St t, St a, .slice none 0 0]) :=
  ⟨_, _, _, _, rfl, .cons k t a [] _ [] [] [] 0 (World.ownsRow_nil _ _ _ _) (fun b hb => by simp [Value.ownBlock] at hb) .nil .nil⟩

set_option maxHeartbeats 16000000 in
set_option maxRecDepth 100000 in
theorem value_scalar (g : Nat) (r : FRd) (f : Bool) (deep : Int) (anc : Bs) (tag tagAt : Int) (r1 : FRd) (hpr : FRd.props f 4 (r.skip 0) Pr.no = some (⟨anc, tag, tagAt⟩, r1)) (ok : r.Ok) (W : Int) (hW : r.whole = W) (hWs : W < 4294967296) (G : Nat) (hGg : G ≤ g) (w : World) (he : Env G w) (h : r.At w g) (n42 : r1.next [42] = false) (n91 : r1.next [91] = false) (n123 : r1.next [123] = false) :
    Calls Tryz.prog 30 #[.pointer (some ⟨g, 0, none⟩), .bool f, .int .i64 deep] w fun e w' => ∃ v, e = .returned v ∧ Rep1 w' (fun b => w.heap.size ≤ b) (scalarT ((r1.scalar f).2.2.made (r1.scalar f).1 (r1.scalar f).2.1 tag tagAt).1 (r1.scalar f).1 anc) v ∧ ((r1.scalar f).2.2.made (r1.scalar f).1 (r1.scalar f).2.1 tag tagAt).2.At w' g ∧ Fr (· = g) w.heap.size w w' := by
  have hlt := blk_lt h
  have ok1 := ((FRd.sub_skip r 0).trans (FRd.sub_props f 4 _ _ _ _ hpr)).ok ok
  have hW1 : r1.whole = W := by rw [((FRd.sub_skip r 0).trans (FRd.sub_props f 4 _ _ _ _ hpr)).1]; exact hW
  have hSk := fun w' h' => frd_skip g r 0 (Nat.zero_le _) w' h'
  have hPr := fun w' h' => frd_props g (r.skip 0) f _ _ hpr w' h' ((FRd.sub_skip r 0).ok ok)
  have hNx := fun cs w' h' => frd_next g r1 cs w' h'
  have HE := Lib.hid he
  have hEn : ∀ w', Fr (· = g) w.heap.size w w' → Env G w' := fun w' hf => HE.out.fr hf HE.out.le (fun k hk => by subst hk; exact hGg)
  have HEN := Lib.hid hEn
  have HA0 := Lib.hid (show r.At (w.alloc (.cells #[.int .i64 0, St [], St [], .slice none 0 0] 24)) g from blk_alloc h)
  obtain ⟨F, hF⟩ : ∃ F, w.heap.size = F := ⟨_, rfl⟩
  have HZ0 : Hid ((w.alloc (.cells #[.int .i64 0, St [], St [], .slice none 0 0] 24)).heap[F]? = some (.cells #[.int .i64 0, St [], St [], .slice none 0 0] 24) ∧ Fr (· = g) w.heap.size w (w.alloc (.cells #[.int .i64 0, St [], St [], .slice none 0 0] 24))) := ⟨by rw [← hF]; exact blk_new _ _, (Fr.refl _ _ _).alloc (Nat.le_refl _) _⟩
  have hFg : F ≠ g := by omega
  clear hEn he h hpr
  have hSc := fun w' he' h' => frd_scalar g r1 f G w' he' hGg h' ok1 (by omega)
  have hlen := r1.scalar_len f
  have hMd := fun w' he' h' => frd_made g (r1.scalar f).2.2 (r1.scalar f).1 anc (r1.scalar f).2.1 tag tagAt (by have := ok1.len; have := ok1.hi; omega) G w' he' h'
  change ∀ w', Env G w' → _ → Calls _ _ _ w' (fun e w'' => e = .returned (.agg #[.int .i64 ((r1.scalar f).2.2.made (r1.scalar f).1 (r1.scalar f).2.1 tag tagAt).1, St (if ((r1.scalar f).2.2.made (r1.scalar f).1 (r1.scalar f).2.1 tag tagAt).1 = 1 then [] else (r1.scalar f).1), St anc, .slice none 0 0]) ∧ ((r1.scalar f).2.2.made (r1.scalar f).1 (r1.scalar f).2.1 tag tagAt).2.At w'' g ∧ Fr (· = g) w'.heap.size w' w'') at hMd
  unfold scalarT
  generalize (if ((r1.scalar f).2.2.made (r1.scalar f).1 (r1.scalar f).2.1 tag tagAt).1 = 1 then [] else (r1.scalar f).1) = X at hMd ⊢
  generalize (r1.scalar f).2.2.made (r1.scalar f).1 (r1.scalar f).2.1 tag tagAt = md at hMd ⊢
  obtain ⟨kk, rM⟩ := md
  generalize r1.scalar f = sc at hSc hMd
  obtain ⟨st, sq, rS⟩ := sc
  simp only [] at hSc hMd ⊢
  clear hlen ok1 hW1 hWs ok hW
  go_enter Tryz.func30, Tryz.ntmps30
  go_wp2_with fail
  refine (hSk _ (by exact HA0.out)).mono ?_
  rintro e w1 ⟨rfl, h1, f1⟩
  have hz1 := blk_fr HZ0.out.1 f1 (blk_lt HZ0.out.1) hFg
  have f1' := HZ0.out.2.call f1 HZ0.out.2.size (fun _ _ h => h)
  go_wp2_with fail
  refine (hPr _ h1).mono ?_
  rintro e w2 ⟨rfl, h2, f2⟩
  have hz2 := blk_fr hz1 f2 (blk_lt hz1) hFg
  have f2' := f1'.call f2 f1'.size (fun _ _ h => h)
  obtain ⟨H, hH⟩ : ∃ H, w2.heap.size = H := ⟨_, rfl⟩
  have hFH : F < H := by rw [← hH]; exact blk_lt hz2
  have h3 : r1.At (w2.alloc (.cells #[St anc, .int .i64 tag, .int .i64 tagAt] 89)) g := blk_alloc h2
  have hz3 : (w2.alloc (.cells #[St anc, .int .i64 tag, .int .i64 tagAt] 89)).heap[F]? = some (.cells #[.int .i64 0, St [], St [], .slice none 0 0] 24) := blk_alloc hz2
  have hp3 : (w2.alloc (.cells #[St anc, .int .i64 tag, .int .i64 tagAt] 89)).heap[H]? = some (.cells #[St anc, .int .i64 tag, .int .i64 tagAt] 89) := by rw [← hH]; exact blk_new _ _
  have f3 : Fr (· = g) w.heap.size w (w2.alloc (.cells #[St anc, .int .i64 tag, .int .i64 tagAt] 89)) := f2'.alloc f2'.size _
  have hHg : H ≠ g := by omega
  have hN42 := hNx [42] _ h3
  have hN91 := hNx [91] _ h3
  have hN123 := hNx [123] _ h3
  obtain ⟨a0, a1, a2, a3, i0, i1, i2, i3⟩ := h3.parts
  obtain ⟨z0, z1, z2, z3, y0, y1, y2, y3⟩ := cells4 hz3
  obtain ⟨p0, p1, p2, q0, q1, q2⟩ := cells3 hp3
  have H3 := Lib.hid (And.intro h3 (And.intro hz3 (And.intro hp3 f3)))
  clear h1 f1 hz1 f1' h2 f2 hz2 f2' h3 hz3 hp3 f3 hNx
  rw [n42] at hN42
  rw [n91] at hN91
  rw [n123] at hN123
  clear n42 n91 n123
  go_wp2_with fail
  refine (hN42).mono ?_
  rintro e w4 ⟨rfl, rfl⟩
  go_wp2_with fail
  refine (hN91).mono ?_
  rintro e w4 ⟨rfl, rfl⟩
  go_wp2_with fail
  refine (hN123).mono ?_
  rintro e w4 ⟨rfl, rfl⟩
  go_wp2_with fail
  refine (hSc _ (HEN.out _ H3.out.2.2.2) (by exact H3.out.1)).mono ?_
  rintro e w5 ⟨rfl, h5, f5⟩
  have hz5 := blk_fr H3.out.2.1 f5 (blk_lt H3.out.2.1) hFg
  have hp5 := blk_fr H3.out.2.2.1 f5 (blk_lt H3.out.2.2.1) hHg
  have f5' := H3.out.2.2.2.call f5 H3.out.2.2.2.size (fun _ _ h => h)
  clear a0 a1 a2 a3 i0 i1 i2 i3 z0 z1 z2 z3 y0 y1 y2 y3 p0 p1 p2 q0 q1 q2 hN42 hN91 hN123
  obtain ⟨p0, p1, p2, q0, q1, q2⟩ := cells3 hp5
  have H5 := Lib.hid (And.intro h5 (And.intro hz5 f5'))
  clear h5 f5 hz5 hp5 f5'
  go_wp2_with fail
  refine (hMd _ (HEN.out _ H5.out.2.2) (by exact H5.out.1)).mono ?_
  rintro e w6 ⟨rfl, h6, f6⟩
  have hz6 := blk_fr H5.out.2.1 f6 (blk_lt H5.out.2.1) hFg
  have f6' := H5.out.2.2.call f6 H5.out.2.2.size (fun _ _ h => h)
  obtain ⟨z0, z1, z2, z3, y0, y1, y2, y3⟩ := cells4 hz6
  have H6 := Lib.hid (And.intro h6 (And.intro hz6 f6'))
  clear h6 f6 hz6 f6'
  go_wp2_with fail
  have hd := blk_set (i := 3) (v := .slice none 0 0) (blk_set (i := 2) (v := St anc) (blk_set (i := 1) (v := St X) (blk_set (i := 0) (v := .int .i64 kk) H6.out.2.1)))
  have e0 := blk_cell hd 0
  have e1 := blk_cell hd 1
  have e2 := blk_cell hd 2
  have e3 := blk_cell hd 3
  exact bodyPost_ret (v := .agg #[.int .i64 kk, St X, St anc, .slice none 0 0]) (by simp [results, Tryz.results30, go_sem, e0, e1, e2, e3]) rfl
    ⟨_, rfl, rep_leaf _ _ _ _ _, blk_set_ne (blk_set_ne (blk_set_ne (blk_set_ne H6.out.1 (by simp; omega)) (by simp; omega)) (by simp; omega)) (by simp; omega), (((H6.out.2.2.setCell (.inl (by simp; omega)) _).setCell (.inl (by simp; omega)) _).setCell (.inl (by simp; omega)) _).setCell (.inl (by simp; omega)) _⟩
set_option maxHeartbeats 16000000 in
set_option maxRecDepth 100000 in
theorem value_deep_seq (g : Nat) (r : FRd) (f : Bool) (deep : Int) (anc : Bs) (tag tagAt : Int) (r1 : FRd) (hpr : FRd.props f 4 (r.skip 0) Pr.no = some (⟨anc, tag, tagAt⟩, r1)) (ok : r.Ok) (W : Int) (hW : r.whole = W) (hWs : W < 4294967296) (G : Nat) (hGg : G ≤ g) (w : World) (he : Env G w) (h : r.At w g) (n42 : r1.next [42] = false) (n91 : r1.next [91] = true) (hdeep : deep = 64) :
    Calls Tryz.prog 30 #[.pointer (some ⟨g, 0, none⟩), .bool f, .int .i64 deep] w fun e w' => ∃ v, e = .returned v ∧ Rep1 w' (fun b => w.heap.size ≤ b) (.mk 0 [] [] []) v ∧ (r1.wrong 10 r1.pos).At w' g ∧ Fr (· = g) w.heap.size w w' := by
  have hlt := blk_lt h
  have ok1 := ((FRd.sub_skip r 0).trans (FRd.sub_props f 4 _ _ _ _ hpr)).ok ok
  have hW1 : r1.whole = W := by rw [((FRd.sub_skip r 0).trans (FRd.sub_props f 4 _ _ _ _ hpr)).1]; exact hW
  have hSk := fun w' h' => frd_skip g r 0 (Nat.zero_le _) w' h'
  have hPr := fun w' h' => frd_props g (r.skip 0) f _ _ hpr w' h' ((FRd.sub_skip r 0).ok ok)
  have hNx := fun cs w' h' => frd_next g r1 cs w' h'
  have HE := Lib.hid he
  have hEn : ∀ w', Fr (· = g) w.heap.size w w' → Env G w' := fun w' hf => HE.out.fr hf HE.out.le (fun k hk => by subst hk; exact hGg)
  have HEN := Lib.hid hEn
  have HA0 := Lib.hid (show r.At (w.alloc (.cells #[.int .i64 0, St [], St [], .slice none 0 0] 24)) g from blk_alloc h)
  obtain ⟨F, hF⟩ : ∃ F, w.heap.size = F := ⟨_, rfl⟩
  have HZ0 : Hid ((w.alloc (.cells #[.int .i64 0, St [], St [], .slice none 0 0] 24)).heap[F]? = some (.cells #[.int .i64 0, St [], St [], .slice none 0 0] 24) ∧ Fr (· = g) w.heap.size w (w.alloc (.cells #[.int .i64 0, St [], St [], .slice none 0 0] 24))) := ⟨by rw [← hF]; exact blk_new _ _, (Fr.refl _ _ _).alloc (Nat.le_refl _) _⟩
  have hFg : F ≠ g := by omega
  clear hEn he h hpr
  have hAt := fun w' h' => frd_at g r1 w' h' ok1
  have hWr := fun w' h' => frd_wrong g r1 10 r1.pos w' h'
  subst hdeep
  clear ok1 hW1 hWs ok hW
  go_enter Tryz.func30, Tryz.ntmps30
  go_wp2_with fail
  refine (hSk _ (by exact HA0.out)).mono ?_
  rintro e w1 ⟨rfl, h1, f1⟩
  have hz1 := blk_fr HZ0.out.1 f1 (blk_lt HZ0.out.1) hFg
  have f1' := HZ0.out.2.call f1 HZ0.out.2.size (fun _ _ h => h)
  go_wp2_with fail
  refine (hPr _ h1).mono ?_
  rintro e w2 ⟨rfl, h2, f2⟩
  have hz2 := blk_fr hz1 f2 (blk_lt hz1) hFg
  have f2' := f1'.call f2 f1'.size (fun _ _ h => h)
  obtain ⟨H, hH⟩ : ∃ H, w2.heap.size = H := ⟨_, rfl⟩
  have hFH : F < H := by rw [← hH]; exact blk_lt hz2
  have h3 : r1.At (w2.alloc (.cells #[St anc, .int .i64 tag, .int .i64 tagAt] 89)) g := blk_alloc h2
  have hz3 : (w2.alloc (.cells #[St anc, .int .i64 tag, .int .i64 tagAt] 89)).heap[F]? = some (.cells #[.int .i64 0, St [], St [], .slice none 0 0] 24) := blk_alloc hz2
  have hp3 : (w2.alloc (.cells #[St anc, .int .i64 tag, .int .i64 tagAt] 89)).heap[H]? = some (.cells #[St anc, .int .i64 tag, .int .i64 tagAt] 89) := by rw [← hH]; exact blk_new _ _
  have f3 : Fr (· = g) w.heap.size w (w2.alloc (.cells #[St anc, .int .i64 tag, .int .i64 tagAt] 89)) := f2'.alloc f2'.size _
  have hHg : H ≠ g := by omega
  have hN42 := hNx [42] _ h3
  have hN91 := hNx [91] _ h3
  have hN123 := hNx [123] _ h3
  obtain ⟨a0, a1, a2, a3, i0, i1, i2, i3⟩ := h3.parts
  obtain ⟨z0, z1, z2, z3, y0, y1, y2, y3⟩ := cells4 hz3
  obtain ⟨p0, p1, p2, q0, q1, q2⟩ := cells3 hp3
  have H3 := Lib.hid (And.intro h3 (And.intro hz3 (And.intro hp3 f3)))
  clear h1 f1 hz1 f1' h2 f2 hz2 f2' h3 hz3 hp3 f3 hNx
  rw [n42] at hN42
  rw [n91] at hN91
  clear n42 n91
  go_wp2_with fail
  refine (hN42).mono ?_
  rintro e w4 ⟨rfl, rfl⟩
  go_wp2_with fail
  refine (hN91).mono ?_
  rintro e w4 ⟨rfl, rfl⟩
  go_wp2_with fail
  refine (hAt _ (by exact H3.out.1)).mono ?_
  rintro e w5 ⟨rfl, n5, rfl⟩
  go_wp2_with fail
  refine (hWr _ (by exact H3.out.1)).mono ?_
  rintro e w6 ⟨rfl, h6, f6⟩
  have hz3d : ((w2.alloc (.cells #[St anc, .int .i64 tag, .int .i64 tagAt] 89)).drewN n5).heap[F]? = some (.cells #[.int .i64 0, St [], St [], .slice none 0 0] 24) := H3.out.2.1
  have hz6 := blk_fr hz3d f6 (blk_lt hz3d) hFg
  clear hz3d
  have f6' := (H3.out.2.2.2.drewN n5).call f6 H3.out.2.2.2.size (fun _ _ h => h)
  clear a0 a1 a2 a3 i0 i1 i2 i3 z0 z1 z2 z3 y0 y1 y2 y3 p0 p1 p2 q0 q1 q2 hN42 hN91 hN123
  obtain ⟨z0, z1, z2, z3, y0, y1, y2, y3⟩ := cells4 hz6
  have H6 := Lib.hid (And.intro h6 (And.intro hz6 f6'))
  clear h6 f6 hz6 f6'
  go_wp2_with fail
  have hd := blk_set (i := 3) (v := .slice none 0 0) (blk_set (i := 2) (v := St []) (blk_set (i := 1) (v := St []) (blk_set (i := 0) (v := .int .i64 0) H6.out.2.1)))
  have e0 := blk_cell hd 0
  have e1 := blk_cell hd 1
  have e2 := blk_cell hd 2
  have e3 := blk_cell hd 3
  exact bodyPost_ret (v := .agg #[.int .i64 0, St [], St [], .slice none 0 0]) (by simp [results, Tryz.results30, go_sem, e0, e1, e2, e3]) rfl
    ⟨_, rfl, rep_leaf _ _ _ _ _, blk_set_ne (blk_set_ne (blk_set_ne (blk_set_ne H6.out.1 (by simp; omega)) (by simp; omega)) (by simp; omega)) (by simp; omega), (((H6.out.2.2.setCell (.inl (by simp; omega)) _).setCell (.inl (by simp; omega)) _).setCell (.inl (by simp; omega)) _).setCell (.inl (by simp; omega)) _⟩
set_option maxHeartbeats 16000000 in
set_option maxRecDepth 100000 in
theorem value_deep_map (g : Nat) (r : FRd) (f : Bool) (deep : Int) (anc : Bs) (tag tagAt : Int) (r1 : FRd) (hpr : FRd.props f 4 (r.skip 0) Pr.no = some (⟨anc, tag, tagAt⟩, r1)) (ok : r.Ok) (W : Int) (hW : r.whole = W) (hWs : W < 4294967296) (G : Nat) (hGg : G ≤ g) (w : World) (he : Env G w) (h : r.At w g) (n42 : r1.next [42] = false) (n91 : r1.next [91] = false) (n123 : r1.next [123] = true) (hdeep : deep = 64) :
    Calls Tryz.prog 30 #[.pointer (some ⟨g, 0, none⟩), .bool f, .int .i64 deep] w fun e w' => ∃ v, e = .returned v ∧ Rep1 w' (fun b => w.heap.size ≤ b) (.mk 0 [] [] []) v ∧ (r1.wrong 10 r1.pos).At w' g ∧ Fr (· = g) w.heap.size w w' := by
  have hlt := blk_lt h
  have ok1 := ((FRd.sub_skip r 0).trans (FRd.sub_props f 4 _ _ _ _ hpr)).ok ok
  have hW1 : r1.whole = W := by rw [((FRd.sub_skip r 0).trans (FRd.sub_props f 4 _ _ _ _ hpr)).1]; exact hW
  have hSk := fun w' h' => frd_skip g r 0 (Nat.zero_le _) w' h'
  have hPr := fun w' h' => frd_props g (r.skip 0) f _ _ hpr w' h' ((FRd.sub_skip r 0).ok ok)
  have hNx := fun cs w' h' => frd_next g r1 cs w' h'
  have HE := Lib.hid he
  have hEn : ∀ w', Fr (· = g) w.heap.size w w' → Env G w' := fun w' hf => HE.out.fr hf HE.out.le (fun k hk => by subst hk; exact hGg)
  have HEN := Lib.hid hEn
  have HA0 := Lib.hid (show r.At (w.alloc (.cells #[.int .i64 0, St [], St [], .slice none 0 0] 24)) g from blk_alloc h)
  obtain ⟨F, hF⟩ : ∃ F, w.heap.size = F := ⟨_, rfl⟩
  have HZ0 : Hid ((w.alloc (.cells #[.int .i64 0, St [], St [], .slice none 0 0] 24)).heap[F]? = some (.cells #[.int .i64 0, St [], St [], .slice none 0 0] 24) ∧ Fr (· = g) w.heap.size w (w.alloc (.cells #[.int .i64 0, St [], St [], .slice none 0 0] 24))) := ⟨by rw [← hF]; exact blk_new _ _, (Fr.refl _ _ _).alloc (Nat.le_refl _) _⟩
  have hFg : F ≠ g := by omega
  clear hEn he h hpr
  have hAt := fun w' h' => frd_at g r1 w' h' ok1
  have hWr := fun w' h' => frd_wrong g r1 10 r1.pos w' h'
  subst hdeep
  clear ok1 hW1 hWs ok hW
  go_enter Tryz.func30, Tryz.ntmps30
  go_wp2_with fail
  refine (hSk _ (by exact HA0.out)).mono ?_
  rintro e w1 ⟨rfl, h1, f1⟩
  have hz1 := blk_fr HZ0.out.1 f1 (blk_lt HZ0.out.1) hFg
  have f1' := HZ0.out.2.call f1 HZ0.out.2.size (fun _ _ h => h)
  go_wp2_with fail
  refine (hPr _ h1).mono ?_
  rintro e w2 ⟨rfl, h2, f2⟩
  have hz2 := blk_fr hz1 f2 (blk_lt hz1) hFg
  have f2' := f1'.call f2 f1'.size (fun _ _ h => h)
  obtain ⟨H, hH⟩ : ∃ H, w2.heap.size = H := ⟨_, rfl⟩
  have hFH : F < H := by rw [← hH]; exact blk_lt hz2
  have h3 : r1.At (w2.alloc (.cells #[St anc, .int .i64 tag, .int .i64 tagAt] 89)) g := blk_alloc h2
  have hz3 : (w2.alloc (.cells #[St anc, .int .i64 tag, .int .i64 tagAt] 89)).heap[F]? = some (.cells #[.int .i64 0, St [], St [], .slice none 0 0] 24) := blk_alloc hz2
  have hp3 : (w2.alloc (.cells #[St anc, .int .i64 tag, .int .i64 tagAt] 89)).heap[H]? = some (.cells #[St anc, .int .i64 tag, .int .i64 tagAt] 89) := by rw [← hH]; exact blk_new _ _
  have f3 : Fr (· = g) w.heap.size w (w2.alloc (.cells #[St anc, .int .i64 tag, .int .i64 tagAt] 89)) := f2'.alloc f2'.size _
  have hHg : H ≠ g := by omega
  have hN42 := hNx [42] _ h3
  have hN91 := hNx [91] _ h3
  have hN123 := hNx [123] _ h3
  obtain ⟨a0, a1, a2, a3, i0, i1, i2, i3⟩ := h3.parts
  obtain ⟨z0, z1, z2, z3, y0, y1, y2, y3⟩ := cells4 hz3
  obtain ⟨p0, p1, p2, q0, q1, q2⟩ := cells3 hp3
  have H3 := Lib.hid (And.intro h3 (And.intro hz3 (And.intro hp3 f3)))
  clear h1 f1 hz1 f1' h2 f2 hz2 f2' h3 hz3 hp3 f3 hNx
  rw [n42] at hN42
  rw [n91] at hN91
  rw [n123] at hN123
  clear n42 n91
  go_wp2_with fail
  refine (hN42).mono ?_
  rintro e w4 ⟨rfl, rfl⟩
  go_wp2_with fail
  refine (hN91).mono ?_
  rintro e w4 ⟨rfl, rfl⟩
  go_wp2_with fail
  refine (hN123).mono ?_
  rintro e w4 ⟨rfl, rfl⟩
  go_wp2_with fail
  refine (hAt _ (by exact H3.out.1)).mono ?_
  rintro e w5 ⟨rfl, n5, rfl⟩
  go_wp2_with fail
  refine (hWr _ (by exact H3.out.1)).mono ?_
  rintro e w6 ⟨rfl, h6, f6⟩
  have hz3d : ((w2.alloc (.cells #[St anc, .int .i64 tag, .int .i64 tagAt] 89)).drewN n5).heap[F]? = some (.cells #[.int .i64 0, St [], St [], .slice none 0 0] 24) := H3.out.2.1
  have hz6 := blk_fr hz3d f6 (blk_lt hz3d) hFg
  clear hz3d
  have f6' := (H3.out.2.2.2.drewN n5).call f6 H3.out.2.2.2.size (fun _ _ h => h)
  clear a0 a1 a2 a3 i0 i1 i2 i3 z0 z1 z2 z3 y0 y1 y2 y3 p0 p1 p2 q0 q1 q2 hN42 hN91 hN123
  obtain ⟨z0, z1, z2, z3, y0, y1, y2, y3⟩ := cells4 hz6
  have H6 := Lib.hid (And.intro h6 (And.intro hz6 f6'))
  clear h6 f6 hz6 f6'
  go_wp2_with fail
  have hd := blk_set (i := 3) (v := .slice none 0 0) (blk_set (i := 2) (v := St []) (blk_set (i := 1) (v := St []) (blk_set (i := 0) (v := .int .i64 0) H6.out.2.1)))
  have e0 := blk_cell hd 0
  have e1 := blk_cell hd 1
  have e2 := blk_cell hd 2
  have e3 := blk_cell hd 3
  exact bodyPost_ret (v := .agg #[.int .i64 0, St [], St [], .slice none 0 0]) (by simp [results, Tryz.results30, go_sem, e0, e1, e2, e3]) rfl
    ⟨_, rfl, rep_leaf _ _ _ _ _, blk_set_ne (blk_set_ne (blk_set_ne (blk_set_ne H6.out.1 (by simp; omega)) (by simp; omega)) (by simp; omega)) (by simp; omega), (((H6.out.2.2.setCell (.inl (by simp; omega)) _).setCell (.inl (by simp; omega)) _).setCell (.inl (by simp; omega)) _).setCell (.inl (by simp; omega)) _⟩
end Go.Proofs.YtbmonfcahhhdeaaGreatDoor
