/- put's contract; the walk of flow.Write, of a tree that may be. -/
import Derived.Test.YtfddjbojpgnfoaaGreatDoorFW7
set_option linter.unusedVariables false
set_option linter.unusedSimpArgs false
namespace Go.Proofs.YtfddjbojpgnfoaaGreatDoor
open Go.RowKit

theorem put_spec : ∀ m, PutSpec m
  | 0 => fun _ _ _ _ _ _ _ h => by omega
  | m + 1 => put_step m (put_spec m)

set_option maxHeartbeats 4000000 in
theorem flow_Write_ok (k : Int) (t a : Bs) (kids : List T) (A : Option Addr) (n cp : Nat) (hfit : Fit [.mk k t a kids]) (hR : (rightT (.mk k t a kids) 4096 0).1 = true) (hlen : (putT (.mk k t a kids)).length ≤ 140737488355328) (G : Nat) (K : Nat → Prop) (w : World) (he : Env G w) (hK : ∀ b, K b → b < w.heap.size) (hr : Rep w K [.mk k t a kids] [.int .i64 k, St t, St a, .slice A n cp]) :
    Calls Tryz.prog 8 #[.agg #[.int .i64 k, St t, St a, .slice A n cp]] w fun e w' => e = .returned (.tuple #[St (putT (.mk k t a kids)), .int .i64 0]) ∧ Below w.heap.size w w' := by
  obtain ⟨F, hF⟩ : ∃ F, w.heap.size = F := ⟨_, rfl⟩
  have hG := he.le
  have hb1 : Below w.heap.size w (w.alloc (.cells #[.int .i64 k, St t, St a, .slice A n cp] 25)) := (Below.refl _ _).alloc (Nat.le_refl _) _
  have hx1 : (w.alloc (.cells #[.int .i64 k, St t, St a, .slice A n cp] 25)).heap[F]? = some (.cells #[.int .i64 k, St t, St a, .slice A n cp] 25) := by rw [← hF]; exact blk_new _ _
  have he1 := he.own hb1
  have hr1 := hr.under hb1
  have hRt := flow_Right k t a kids A n cp hfit G K _ he1 (fun b h => by have := hK b h; rw [World.size_alloc]; omega) hr1
  rw [hR] at hRt
  obtain ⟨x0, x1, x2, x3, y0, y1, y2, y3⟩ := cells4 hx1
  have H1 := Lib.hid (And.intro hb1 (And.intro hx1 (And.intro he1 hr1)))
  have hPut := fun B b w' he h1 h2 h3 h4 h5 h6 h7 h8 => put_spec _ k t a kids A n cp (Nat.lt_succ_self _) hfit B b [] G K w' he h1 h2 h3 h4 h5 h6 h7 h8
  clear he hr hb1 hx1 he1 hr1 hR hfit
  generalize putT (.mk k t a kids) = Y at hPut hlen ⊢
  rw [List.nil_append] at hPut
  go_enter Tryz.func8, Tryz.ntmps8
  go_wp2_with fail
  refine hRt.mono ?_
  rintro e w2 ⟨rfl, hb2⟩
  have hx2 := blk_below H1.out.2.1 hb2 (blk_lt H1.out.2.1)
  have hr2 := H1.out.2.2.2.under hb2
  have he2 := H1.out.2.2.1.own hb2
  have hbw : Below w.heap.size w w2 := H1.out.1.trans (hb2.mono (by simp))
  have hFlt := blk_lt hx2
  obtain ⟨b, hb⟩ : ∃ b, w2.heap.size = b := ⟨_, rfl⟩
  have hb3 : Below w2.heap.size w2 (w2.alloc (.cells #[.pointer none, .slice none 0 0] 43)) := (Below.refl _ _).alloc (Nat.le_refl _) _
  have hx3 : (w2.alloc (.cells #[.pointer none, .slice none 0 0] 43)).heap[F]? = some (.cells #[.int .i64 k, St t, St a, .slice A n cp] 25) := blk_alloc hx2
  have hd3 : Bld 43 b b [] (w2.alloc (.cells #[.pointer none, .slice none 0 0] 43)) := Bld.fresh (Nat.le_refl _) (by rw [← hb]; exact blk_new _ _)
  have hs3 : b < (w2.alloc (.cells #[.pointer none, .slice none 0 0] 43)).heap.size := by rw [World.size_alloc]; omega
  have hz := hbw.size
  have hP3 := hPut b b _ (he2.own hb3) (by omega) (Nat.le_refl _) (fun x hx => by have := hK x hx; omega) (hr2.under hb3) hd3 (by omega) hs3 (by simpa using hlen)
  have hS := fun w' h hw => bld_String bt_builder b b Y w' h hw
  clear x0 x1 x2 x3 y0 y1 y2 y3
  obtain ⟨x0, x1, x2, x3, y0, y1, y2, y3⟩ := cells4 hx3
  have H3 := Lib.hid (And.intro hbw (And.intro hb3 hs3))
  clear hx2 hr2 he2 hbw hb2 hb3 hx3 hd3 hs3 hz
  go_wp2_with fail
  refine hP3.mono ?_
  rintro e w4 ⟨rfl, hd4, hf4⟩
  go_wp2_with fail
  refine (hS _ hd4 (by have := hf4.below.size; have := H3.out.2.2; omega)).mono ?_
  rintro e w5 ⟨rfl, hd5, hf5⟩
  go_wp2_with fail
  go_ret2
  refine ⟨rfl, ?_⟩
  have hz := H3.out.1.size
  exact ((H3.out.1.trans (H3.out.2.1.mono hz)).trans (hf4.below.mono (by omega))).trans (hf5.below.mono (by omega))
end Go.Proofs.YtfddjbojpgnfoaaGreatDoor
