/- The walk of the reader's made. -/
import Derived.Test.YtbmonfcahhhdeaaGreatDoorFRd9
set_option linter.unusedVariables false
set_option linter.unusedSimpArgs false
namespace Go.Proofs.YtbmonfcahhhdeaaGreatDoor
open Go.RowKit

/-- made's kind, and the reader behind it. -/
def FRd.made (r : FRd) (t : Bs) (quoted : Bool) (tag tagAt : Int) : Int × FRd :=
  if tag = 4 then (4, r) else if tag ≠ 0 ∧ tag ≠ presolve t then (presolve t, r.wrong 12 tagAt) else if tag = 0 ∧ quoted then (4, r) else (presolve t, r)
/-- A scalar's tree, as a value. -/
abbrev scalarV (kind : Int) (t a : Bs) : Value := .agg #[.int .i64 kind, St (if kind = 1 then [] else t), St a, .slice none 0 0]

set_option maxHeartbeats 4000000 in
theorem frd_made (g : Nat) (r : FRd) (t anc : Bs) (quoted : Bool) (tag tagAt : Int) (ht : t.length ≤ 140737488355328) (G : Nat) (w : World) (he : Env G w) (h : r.At w g) :
    Calls Tryz.prog 61 #[.pointer (some ⟨g, 0, none⟩), St t, .bool quoted, .agg #[St anc, .int .i64 tag, .int .i64 tagAt]] w fun e w' => e = .returned (scalarV (r.made t quoted tag tagAt).1 t anc) ∧ (r.made t quoted tag tagAt).2.At w' g ∧ Fr (· = g) w.heap.size w w' := by
  have hlt := blk_lt h
  have hRs := fun w' he' => plain_Resolve t ht G w' he'
  have HE := Lib.hid he
  have hAb : ∀ w5, Below w.heap.size w w5 → r.At w5 g := fun w5 hb => blk_below h hb hlt
  clear he h
  obtain ⟨F, hF⟩ : ∃ F, w.heap.size = F := ⟨_, rfl⟩
  by_cases h4 : tag = 4
  · subst h4
    have hR : Hid (r.made t quoted 4 tagAt = (4, r)) := by show _ = _; unfold FRd.made; rw [if_pos rfl]
    have HV : Hid (Ending.returned (.agg #[.int .i64 4, St t, St anc, .slice none 0 0]) = .returned (scalarV 4 t anc)) := by exact rfl
    rw [hR.out]
    generalize presolve t = k0 at hRs
    clear hR ht
    go_enter Tryz.func61, Tryz.ntmps61
    go_wp2_with fail
    refine (hRs _ (by exact (HE.out.alloc _).alloc _)).mono ?_
    rintro e w2 ⟨rfl, hb2⟩
    have hb3 : Below w.heap.size w w2 := (((Below.refl _ _).alloc (Nat.le_refl _) _).alloc (by simp) _).trans (hb2.mono (by simp; omega))
    have hp : w2.heap[F]? = some (.cells #[St anc, .int .i64 4, .int .i64 tagAt] 89) := by rw [← hF]; exact blk_below (blk_alloc (blk_new _ _)) hb2 (by simp; omega)
    have ht8 : w2.heap[F + 1]? = some (.cells #[.int .i64 0, St [], St [], .slice none 0 0] 24) := by rw [← hF]; exact blk_below (blk_new1 _ _ _) hb2 (by simp)
    obtain ⟨p0, p1, p2, q0, q1, q2⟩ := cells3 hp
    obtain ⟨d0, d1, d2, d3, k0, k1, k2, k3⟩ := cells4 ht8
    have HA := Lib.hid (And.intro hb3 (And.intro hp ht8))
    clear hb2 hb3 hp ht8
    go_wp2_with fail
    obtain ⟨hb3, hp, ht8⟩ := HA.out
    have hd := blk_set (i := 3) (v := .slice none 0 0) (blk_set (i := 2) (v := St anc) (blk_set (i := 1) (v := St t) (blk_set (i := 0) (v := .int .i64 4) ht8)))
    have e0 := blk_cell hd 0
    have e1 := blk_cell hd 1
    have e2 := blk_cell hd 2
    have e3 := blk_cell hd 3
    exact bodyPost_ret (v := .agg #[.int .i64 4, St t, St anc, .slice none 0 0]) (by simp [results, Tryz.results61, go_sem, e0, e1, e2, e3]) rfl
      ⟨HV.out, blk_set_ne (blk_set_ne (blk_set_ne (blk_set_ne (hAb _ hb3) (by simp; omega)) (by simp; omega)) (by simp; omega)) (by simp; omega), below_fr' ((((hb3.setCell (by simp; omega) _).setCell (by simp; omega) _).setCell (by simp; omega) _).setCell (by simp; omega) _)⟩
  by_cases h0 : tag = 0
  · subst h0
    cases quoted with
    | true =>
      have hR : Hid (r.made t true 0 tagAt = (4, r)) := by show _ = _; unfold FRd.made; simp
      have HV : Hid (Ending.returned (.agg #[.int .i64 4, St t, St anc, .slice none 0 0]) = .returned (scalarV 4 t anc)) := by exact rfl
      rw [hR.out]
      generalize presolve t = k0 at hRs
      clear hR ht
      go_enter Tryz.func61, Tryz.ntmps61
      go_wp2_with fail
      refine (hRs _ (by exact (HE.out.alloc _).alloc _)).mono ?_
      rintro e w2 ⟨rfl, hb2⟩
      have hb3 : Below w.heap.size w w2 := (((Below.refl _ _).alloc (Nat.le_refl _) _).alloc (by simp) _).trans (hb2.mono (by simp; omega))
      have hp : w2.heap[F]? = some (.cells #[St anc, .int .i64 0, .int .i64 tagAt] 89) := by rw [← hF]; exact blk_below (blk_alloc (blk_new _ _)) hb2 (by simp; omega)
      have ht8 : w2.heap[F + 1]? = some (.cells #[.int .i64 0, St [], St [], .slice none 0 0] 24) := by rw [← hF]; exact blk_below (blk_new1 _ _ _) hb2 (by simp)
      obtain ⟨p0, p1, p2, q0, q1, q2⟩ := cells3 hp
      obtain ⟨d0, d1, d2, d3, k0, k1, k2, k3⟩ := cells4 ht8
      have HA := Lib.hid (And.intro hb3 (And.intro hp ht8))
      clear hb2 hb3 hp ht8
      go_wp2_with fail
      obtain ⟨hb3, hp, ht8⟩ := HA.out
      have hd := blk_set (i := 3) (v := .slice none 0 0) (blk_set (i := 2) (v := St anc) (blk_set (i := 1) (v := St t) (blk_set (i := 0) (v := .int .i64 4) ht8)))
      have e0 := blk_cell hd 0
      have e1 := blk_cell hd 1
      have e2 := blk_cell hd 2
      have e3 := blk_cell hd 3
      exact bodyPost_ret (v := .agg #[.int .i64 4, St t, St anc, .slice none 0 0]) (by simp [results, Tryz.results61, go_sem, e0, e1, e2, e3]) rfl
        ⟨HV.out, blk_set_ne (blk_set_ne (blk_set_ne (blk_set_ne (hAb _ hb3) (by simp; omega)) (by simp; omega)) (by simp; omega)) (by simp; omega), below_fr' ((((hb3.setCell (by simp; omega) _).setCell (by simp; omega) _).setCell (by simp; omega) _).setCell (by simp; omega) _)⟩
    | false =>
      have hR : Hid (r.made t false 0 tagAt = (presolve t, r)) := by show _ = _; unfold FRd.made; simp
      rw [hR.out]
      generalize presolve t = K at hRs ⊢
      clear hR ht
      by_cases hk : K = 1
      · subst hk
        have HV : Hid (Ending.returned (.agg #[.int .i64 1, St [], St anc, .slice none 0 0]) = .returned (scalarV 1 t anc)) := by exact rfl
        go_enter Tryz.func61, Tryz.ntmps61
        go_wp2_with fail
        refine (hRs _ (by exact (HE.out.alloc _).alloc _)).mono ?_
        rintro e w2 ⟨rfl, hb2⟩
        have hb3 : Below w.heap.size w w2 := (((Below.refl _ _).alloc (Nat.le_refl _) _).alloc (by simp) _).trans (hb2.mono (by simp; omega))
        have hp : w2.heap[F]? = some (.cells #[St anc, .int .i64 0, .int .i64 tagAt] 89) := by rw [← hF]; exact blk_below (blk_alloc (blk_new _ _)) hb2 (by simp; omega)
        have ht8 : w2.heap[F + 1]? = some (.cells #[.int .i64 0, St [], St [], .slice none 0 0] 24) := by rw [← hF]; exact blk_below (blk_new1 _ _ _) hb2 (by simp)
        obtain ⟨p0, p1, p2, q0, q1, q2⟩ := cells3 hp
        obtain ⟨d0, d1, d2, d3, k0, k1, k2, k3⟩ := cells4 ht8
        have HA := Lib.hid (And.intro hb3 (And.intro hp ht8))
        clear hb2 hb3 hp ht8
        go_wp2_with fail
        obtain ⟨hb3, hp, ht8⟩ := HA.out
        have hd := blk_set (i := 3) (v := .slice none 0 0) (blk_set (i := 2) (v := St anc) (blk_set (i := 1) (v := St []) (blk_set (i := 0) (v := .int .i64 1) ht8)))
        have e0 := blk_cell hd 0
        have e1 := blk_cell hd 1
        have e2 := blk_cell hd 2
        have e3 := blk_cell hd 3
        exact bodyPost_ret (v := .agg #[.int .i64 1, St [], St anc, .slice none 0 0]) (by simp [results, Tryz.results61, go_sem, e0, e1, e2, e3]) rfl
          ⟨HV.out, blk_set_ne (blk_set_ne (blk_set_ne (blk_set_ne (hAb _ hb3) (by simp; omega)) (by simp; omega)) (by simp; omega)) (by simp; omega), below_fr' ((((hb3.setCell (by simp; omega) _).setCell (by simp; omega) _).setCell (by simp; omega) _).setCell (by simp; omega) _)⟩
      · have HV : Hid (Ending.returned (.agg #[.int .i64 K, St t, St anc, .slice none 0 0]) = .returned (scalarV K t anc)) := by show _ = _; simp [hk]
        go_enter Tryz.func61, Tryz.ntmps61
        go_wp2_with fail
        refine (hRs _ (by exact (HE.out.alloc _).alloc _)).mono ?_
        rintro e w2 ⟨rfl, hb2⟩
        have hb3 : Below w.heap.size w w2 := (((Below.refl _ _).alloc (Nat.le_refl _) _).alloc (by simp) _).trans (hb2.mono (by simp; omega))
        have hp : w2.heap[F]? = some (.cells #[St anc, .int .i64 0, .int .i64 tagAt] 89) := by rw [← hF]; exact blk_below (blk_alloc (blk_new _ _)) hb2 (by simp; omega)
        have ht8 : w2.heap[F + 1]? = some (.cells #[.int .i64 0, St [], St [], .slice none 0 0] 24) := by rw [← hF]; exact blk_below (blk_new1 _ _ _) hb2 (by simp)
        obtain ⟨p0, p1, p2, q0, q1, q2⟩ := cells3 hp
        obtain ⟨d0, d1, d2, d3, k0, k1, k2, k3⟩ := cells4 ht8
        have HA := Lib.hid (And.intro hb3 (And.intro hp ht8))
        clear hb2 hb3 hp ht8
        go_wp2_with fail
        obtain ⟨hb3, hp, ht8⟩ := HA.out
        have hd := blk_set (i := 3) (v := .slice none 0 0) (blk_set (i := 2) (v := St anc) (blk_set (i := 1) (v := St t) (blk_set (i := 0) (v := .int .i64 K) ht8)))
        have e0 := blk_cell hd 0
        have e1 := blk_cell hd 1
        have e2 := blk_cell hd 2
        have e3 := blk_cell hd 3
        exact bodyPost_ret (v := .agg #[.int .i64 K, St t, St anc, .slice none 0 0]) (by simp [results, Tryz.results61, go_sem, e0, e1, e2, e3]) rfl
          ⟨HV.out, blk_set_ne (blk_set_ne (blk_set_ne (blk_set_ne (hAb _ hb3) (by simp; omega)) (by simp; omega)) (by simp; omega)) (by simp; omega), below_fr' ((((hb3.setCell (by simp; omega) _).setCell (by simp; omega) _).setCell (by simp; omega) _).setCell (by simp; omega) _)⟩
  by_cases hT : tag = presolve t
  · have hR : Hid (r.made t quoted tag tagAt = (presolve t, r)) := by show _ = _; unfold FRd.made; rw [if_neg h4, if_neg (by simp [← hT]), if_neg (by simp [h0])]
    rw [hR.out]
    rw [← hT] at hRs ⊢
    clear hR ht hT
    by_cases hk : tag = 1
    · subst hk
      have HV : Hid (Ending.returned (.agg #[.int .i64 1, St [], St anc, .slice none 0 0]) = .returned (scalarV 1 t anc)) := by exact rfl
      go_enter Tryz.func61, Tryz.ntmps61
      go_wp2_with fail
      refine (hRs _ (by exact (HE.out.alloc _).alloc _)).mono ?_
      rintro e w2 ⟨rfl, hb2⟩
      have hb3 : Below w.heap.size w w2 := (((Below.refl _ _).alloc (Nat.le_refl _) _).alloc (by simp) _).trans (hb2.mono (by simp; omega))
      have hp : w2.heap[F]? = some (.cells #[St anc, .int .i64 1, .int .i64 tagAt] 89) := by rw [← hF]; exact blk_below (blk_alloc (blk_new _ _)) hb2 (by simp; omega)
      have ht8 : w2.heap[F + 1]? = some (.cells #[.int .i64 0, St [], St [], .slice none 0 0] 24) := by rw [← hF]; exact blk_below (blk_new1 _ _ _) hb2 (by simp)
      obtain ⟨p0, p1, p2, q0, q1, q2⟩ := cells3 hp
      obtain ⟨d0, d1, d2, d3, k0, k1, k2, k3⟩ := cells4 ht8
      have HA := Lib.hid (And.intro hb3 (And.intro hp ht8))
      clear hb2 hb3 hp ht8
      go_wp2_with fail
      obtain ⟨hb3, hp, ht8⟩ := HA.out
      have hd := blk_set (i := 3) (v := .slice none 0 0) (blk_set (i := 2) (v := St anc) (blk_set (i := 1) (v := St []) (blk_set (i := 0) (v := .int .i64 1) ht8)))
      have e0 := blk_cell hd 0
      have e1 := blk_cell hd 1
      have e2 := blk_cell hd 2
      have e3 := blk_cell hd 3
      exact bodyPost_ret (v := .agg #[.int .i64 1, St [], St anc, .slice none 0 0]) (by simp [results, Tryz.results61, go_sem, e0, e1, e2, e3]) rfl
        ⟨HV.out, blk_set_ne (blk_set_ne (blk_set_ne (blk_set_ne (hAb _ hb3) (by simp; omega)) (by simp; omega)) (by simp; omega)) (by simp; omega), below_fr' ((((hb3.setCell (by simp; omega) _).setCell (by simp; omega) _).setCell (by simp; omega) _).setCell (by simp; omega) _)⟩
    · have HV : Hid (Ending.returned (.agg #[.int .i64 tag, St t, St anc, .slice none 0 0]) = .returned (scalarV tag t anc)) := by show _ = _; simp [hk]
      go_enter Tryz.func61, Tryz.ntmps61
      go_wp2_with fail
      refine (hRs _ (by exact (HE.out.alloc _).alloc _)).mono ?_
      rintro e w2 ⟨rfl, hb2⟩
      have hb3 : Below w.heap.size w w2 := (((Below.refl _ _).alloc (Nat.le_refl _) _).alloc (by simp) _).trans (hb2.mono (by simp; omega))
      have hp : w2.heap[F]? = some (.cells #[St anc, .int .i64 tag, .int .i64 tagAt] 89) := by rw [← hF]; exact blk_below (blk_alloc (blk_new _ _)) hb2 (by simp; omega)
      have ht8 : w2.heap[F + 1]? = some (.cells #[.int .i64 0, St [], St [], .slice none 0 0] 24) := by rw [← hF]; exact blk_below (blk_new1 _ _ _) hb2 (by simp)
      obtain ⟨p0, p1, p2, q0, q1, q2⟩ := cells3 hp
      obtain ⟨d0, d1, d2, d3, k0, k1, k2, k3⟩ := cells4 ht8
      have HA := Lib.hid (And.intro hb3 (And.intro hp ht8))
      clear hb2 hb3 hp ht8
      go_wp2_with fail
      obtain ⟨hb3, hp, ht8⟩ := HA.out
      have hd := blk_set (i := 3) (v := .slice none 0 0) (blk_set (i := 2) (v := St anc) (blk_set (i := 1) (v := St t) (blk_set (i := 0) (v := .int .i64 tag) ht8)))
      have e0 := blk_cell hd 0
      have e1 := blk_cell hd 1
      have e2 := blk_cell hd 2
      have e3 := blk_cell hd 3
      exact bodyPost_ret (v := .agg #[.int .i64 tag, St t, St anc, .slice none 0 0]) (by simp [results, Tryz.results61, go_sem, e0, e1, e2, e3]) rfl
        ⟨HV.out, blk_set_ne (blk_set_ne (blk_set_ne (blk_set_ne (hAb _ hb3) (by simp; omega)) (by simp; omega)) (by simp; omega)) (by simp; omega), below_fr' ((((hb3.setCell (by simp; omega) _).setCell (by simp; omega) _).setCell (by simp; omega) _).setCell (by simp; omega) _)⟩
  · have hR : Hid (r.made t quoted tag tagAt = (presolve t, r.wrong 12 tagAt)) := by show _ = _; unfold FRd.made; rw [if_neg h4, if_pos ⟨h0, hT⟩]
    have hWr := fun w' h' => frd_wrong g r 12 tagAt w' h'
    rw [hR.out]
    generalize presolve t = K at hRs hT ⊢
    generalize r.wrong 12 tagAt = r2 at hWr ⊢
    have b4 : (tag == 4) = false := by simpa using h4
    have b0 : (tag != 0) = true := by simpa using h0
    have bT : (tag != K) = true := by simpa using hT
    clear hR ht h4 h0 hT
    by_cases hk : K = 1
    · subst hk
      have HV : Hid (Ending.returned (.agg #[.int .i64 1, St [], St anc, .slice none 0 0]) = .returned (scalarV 1 t anc)) := by exact rfl
      go_enter Tryz.func61, Tryz.ntmps61
      go_wp2_with fail
      refine (hRs _ (by exact (HE.out.alloc _).alloc _)).mono ?_
      rintro e w2 ⟨rfl, hb2⟩
      have hb3 : Below w.heap.size w w2 := (((Below.refl _ _).alloc (Nat.le_refl _) _).alloc (by simp) _).trans (hb2.mono (by simp; omega))
      have hz2 : F + 1 < w2.heap.size := by have := hb2.size; simp at this; omega
      have hp : w2.heap[F]? = some (.cells #[St anc, .int .i64 tag, .int .i64 tagAt] 89) := by rw [← hF]; exact blk_below (blk_alloc (blk_new _ _)) hb2 (by simp; omega)
      have ht8 : w2.heap[F + 1]? = some (.cells #[.int .i64 0, St [], St [], .slice none 0 0] 24) := by rw [← hF]; exact blk_below (blk_new1 _ _ _) hb2 (by simp)
      obtain ⟨p0, p1, p2, q0, q1, q2⟩ := cells3 hp
      have HA := Lib.hid (And.intro hb3 (And.intro hp ht8))
      clear hb2 hb3 hp ht8
      go_wp2_with fail
      refine (hWr _ (hAb _ HA.out.1)).mono ?_
      rintro e w4 ⟨rfl, h4', fr4⟩
      have hp4 := blk_fr HA.out.2.1 fr4 (by omega) (by omega)
      have ht4 := blk_fr HA.out.2.2 fr4 (by omega) (by omega)
      clear p0 p1 p2 q0 q1 q2
      obtain ⟨p0, p1, p2, q0, q1, q2⟩ := cells3 hp4
      obtain ⟨d0, d1, d2, d3, k0, k1, k2, k3⟩ := cells4 ht4
      have HB := Lib.hid (And.intro h4' (And.intro fr4 ht4))
      clear h4' fr4 hp4 ht4
      go_wp2_with fail
      obtain ⟨h4', fr4, ht4⟩ := HB.out
      have hd := blk_set (i := 3) (v := .slice none 0 0) (blk_set (i := 2) (v := St anc) (blk_set (i := 1) (v := St []) (blk_set (i := 0) (v := .int .i64 1) ht4)))
      have e0 := blk_cell hd 0
      have e1 := blk_cell hd 1
      have e2 := blk_cell hd 2
      have e3 := blk_cell hd 3
      have hfin := (below_fr' (S := (· = g)) HA.out.1).call fr4 HA.out.1.size (fun _ _ h => h)
      exact bodyPost_ret (v := .agg #[.int .i64 1, St [], St anc, .slice none 0 0]) (by simp [results, Tryz.results61, go_sem, e0, e1, e2, e3]) rfl
        ⟨HV.out, blk_set_ne (blk_set_ne (blk_set_ne (blk_set_ne h4' (by simp; omega)) (by simp; omega)) (by simp; omega)) (by simp; omega), (((hfin.setCell (by simp; omega) _).setCell (by simp; omega) _).setCell (by simp; omega) _).setCell (by simp; omega) _⟩
    · have HV : Hid (Ending.returned (.agg #[.int .i64 K, St t, St anc, .slice none 0 0]) = .returned (scalarV K t anc)) := by show _ = _; simp [hk]
      go_enter Tryz.func61, Tryz.ntmps61
      go_wp2_with fail
      refine (hRs _ (by exact (HE.out.alloc _).alloc _)).mono ?_
      rintro e w2 ⟨rfl, hb2⟩
      have hb3 : Below w.heap.size w w2 := (((Below.refl _ _).alloc (Nat.le_refl _) _).alloc (by simp) _).trans (hb2.mono (by simp; omega))
      have hz2 : F + 1 < w2.heap.size := by have := hb2.size; simp at this; omega
      have hp : w2.heap[F]? = some (.cells #[St anc, .int .i64 tag, .int .i64 tagAt] 89) := by rw [← hF]; exact blk_below (blk_alloc (blk_new _ _)) hb2 (by simp; omega)
      have ht8 : w2.heap[F + 1]? = some (.cells #[.int .i64 0, St [], St [], .slice none 0 0] 24) := by rw [← hF]; exact blk_below (blk_new1 _ _ _) hb2 (by simp)
      obtain ⟨p0, p1, p2, q0, q1, q2⟩ := cells3 hp
      have HA := Lib.hid (And.intro hb3 (And.intro hp ht8))
      clear hb2 hb3 hp ht8
      go_wp2_with fail
      refine (hWr _ (hAb _ HA.out.1)).mono ?_
      rintro e w4 ⟨rfl, h4', fr4⟩
      have hp4 := blk_fr HA.out.2.1 fr4 (by omega) (by omega)
      have ht4 := blk_fr HA.out.2.2 fr4 (by omega) (by omega)
      clear p0 p1 p2 q0 q1 q2
      obtain ⟨p0, p1, p2, q0, q1, q2⟩ := cells3 hp4
      obtain ⟨d0, d1, d2, d3, k0, k1, k2, k3⟩ := cells4 ht4
      have HB := Lib.hid (And.intro h4' (And.intro fr4 ht4))
      clear h4' fr4 hp4 ht4
      go_wp2_with fail
      obtain ⟨h4', fr4, ht4⟩ := HB.out
      have hd := blk_set (i := 3) (v := .slice none 0 0) (blk_set (i := 2) (v := St anc) (blk_set (i := 1) (v := St t) (blk_set (i := 0) (v := .int .i64 K) ht4)))
      have e0 := blk_cell hd 0
      have e1 := blk_cell hd 1
      have e2 := blk_cell hd 2
      have e3 := blk_cell hd 3
      have hfin := (below_fr' (S := (· = g)) HA.out.1).call fr4 HA.out.1.size (fun _ _ h => h)
      exact bodyPost_ret (v := .agg #[.int .i64 K, St t, St anc, .slice none 0 0]) (by simp [results, Tryz.results61, go_sem, e0, e1, e2, e3]) rfl
        ⟨HV.out, blk_set_ne (blk_set_ne (blk_set_ne (blk_set_ne h4' (by simp; omega)) (by simp; omega)) (by simp; omega)) (by simp; omega), (((hfin.setCell (by simp; omega) _).setCell (by simp; omega) _).setCell (by simp; omega) _).setCell (by simp; omega) _⟩
end Go.Proofs.YtbmonfcahhhdeaaGreatDoor
