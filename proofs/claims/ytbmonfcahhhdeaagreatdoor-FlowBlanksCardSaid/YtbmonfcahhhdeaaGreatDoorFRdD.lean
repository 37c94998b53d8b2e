/- The walk of flow.kinds. The walk of the reader's tag (under way). The walk of the reader's tag (under way: the way without a second mark). -/
import Derived.Test.YtbmonfcahhhdeaaGreatDoorFRdA
set_option linter.unusedVariables false
set_option linter.unusedSimpArgs false
namespace Go.Proofs.YtbmonfcahhhdeaaGreatDoor
open Go.RowKit

/-- The tags' words. -/
def kindsL : List Bs := [[110, 117, 108, 108], [98, 111, 111, 108], [105, 110, 116], [115, 116, 114], [115, 101, 113], [109, 97, 112]]
set_option maxHeartbeats 4000000 in
theorem flow_kinds (w : World) :
    Calls Tryz.prog 133 #[] w fun e w' => e = .returned (.slice (some ⟨w.heap.size, 0, none⟩) 6 6) ∧ w' = w.alloc (.cells (kindsL.map St).toArray 9) := by
  go_enter Tryz.func133, Tryz.ntmps133
  go_wp2_with fail
  go_ret
  exact ⟨rfl, rfl⟩
end Go.Proofs.YtbmonfcahhhdeaaGreatDoor

namespace Go.Proofs.YtbmonfcahhhdeaaGreatDoor
open Go.RowKit

def lowers : Bs := [97, 98, 99, 100, 101, 102, 103, 104, 105, 106, 107, 108, 109, 110, 111, 112, 113, 114, 115, 116, 117, 118, 119, 120, 121, 122]
/-- A tag's word's kind; 0: none. -/
def kindOf (l : Bs) : Int := Lib.idxOfS (kindsL.map fun l => (⟨l.toArray⟩ : ByteArray)) ⟨l.toArray⟩ + 1
theorem index_kinds (l : Bs) (w w1 : World) (hb : Below (w.heap.size + 1) (w.alloc (.cells (kindsL.map St).toArray 9)) w1) :
    Calls Tryz.prog 132 #[.slice (some ⟨w.heap.size, 0, none⟩) 6 6, St l] w1 fun e w' => e = .returned (.int .i64 (kindOf l - 1)) ∧ w' = w1 := by
  have hk := blk_below (blk_new w (.cells (kindsL.map St).toArray 9)) hb (by omega)
  have h := Tryz.slices_Index_string w.heap.size 0 6 6 (kindsL.map fun l => (⟨l.toArray⟩ : ByteArray)) ⟨l.toArray⟩ w1 (by decide) (by decide) (by
    intro j hj
    rw [blk_cell hk]
    have : j < 6 := hj
    match j, this with
    | 0, _ => rfl
    | 1, _ => rfl
    | 2, _ => rfl
    | 3, _ => rfl
    | 4, _ => rfl
    | 5, _ => rfl)
  refine h.mono ?_
  rintro e w' ⟨rfl, rfl⟩
  refine ⟨?_, rfl⟩
  unfold kindOf
  rw [show (kindsL.map fun l => (⟨l.toArray⟩ : ByteArray)).take 6 = kindsL.map fun l => (⟨l.toArray⟩ : ByteArray) from rfl]
  congr 2
  omega
end Go.Proofs.YtbmonfcahhhdeaaGreatDoor

namespace Go.Proofs.YtbmonfcahhhdeaaGreatDoor
open Go.RowKit

def FRd.tag (r : FRd) : Int × FRd :=
  if (r.dropS 1).next [33] = false then (0, (r.dropS 1).stray)
  else if (r.s.drop 2) = [] then (kindOf [], ((r.dropS 2).cut lowers).stray)
  else if kindOf (wordL (r.s.drop 2) lowers) = 0 then (0, ((r.dropS 2).cut lowers).wrong 3 (r.dropS 2).pos)
  else (kindOf (wordL (r.s.drop 2) lowers), (r.dropS 2).cut lowers)

set_option maxHeartbeats 4000000 in
theorem frd_tag_no (g : Nat) (r : FRd) (hs : 1 ≤ r.s.length) (w : World) (h : r.At w g) (ok : r.Ok) (hn : (r.dropS 1).next [33] = false) :
    Calls Tryz.prog 98 #[.pointer (some ⟨g, 0, none⟩)] w fun e w' => e = .returned (.int .i64 r.tag.1) ∧ r.tag.2.At w' g ∧ Fr (· = g) w.heap.size w w' := by
  have hR : r.tag = (0, (r.dropS 1).stray) := by unfold FRd.tag; rw [if_pos hn]
  rw [hR]
  obtain ⟨c0, c1, c2, c3, f0, f1, f2, f3⟩ := h.parts
  have hdrop := fun w' => slice_drop r.s 1 hs w'
  have h1 : (r.dropS 1).At (w.setCell ⟨g, 1, none⟩ (St r.s.tail)) g := by unfold FRd.dropS; rw [List.drop_one]; exact h.set1 _
  have hN := frd_next g (r.dropS 1) [33] _ h1
  rw [hn] at hN
  have hS := frd_stray g (r.dropS 1) _ h1 (FRd.dropS_ok ok 1)
  have HH := Lib.hid h1
  clear hR hn h1 h ok
  generalize (r.dropS 1) = r1 at hN hS HH ⊢
  clear hdrop
  go_enter Tryz.func98, Tryz.ntmps98
  go_wp2_with fail
  refine hN.mono ?_
  rintro e w1 ⟨rfl, rfl⟩
  go_wp2_with fail
  refine hS.mono ?_
  rintro e w2 ⟨rfl, h2, fr2⟩
  go_wp2_with fail
  go_ret
  exact ⟨rfl, h2, ((Fr.refl _ _ _).own _ _).call fr2 (by simp) (fun _ _ h => h)⟩
end Go.Proofs.YtbmonfcahhhdeaaGreatDoor
