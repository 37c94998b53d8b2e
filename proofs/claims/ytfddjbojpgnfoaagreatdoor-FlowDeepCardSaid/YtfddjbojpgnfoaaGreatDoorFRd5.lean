/- The walks of package flow's reader: word, name. -/
import Derived.Test.YtfddjbojpgnfoaaGreatDoorFRd3
import Derived.Test.YtfddjbojpgnfoaaGreatDoorFRd4
set_option linter.unusedVariables false
set_option linter.unusedSimpArgs false
namespace Go.Proofs.YtfddjbojpgnfoaaGreatDoor
open Go.RowKit

def wordL (l set : Bs) : Bs := l.takeWhile (set.contains ·)
theorem word_cut (l set : Bs) : wordL l set ++ cutL l set = l := List.takeWhile_append_dropWhile
theorem word_len (l set : Bs) : (wordL l set).length + (cutL l set).length = l.length := by
  conv => rhs; rw [← word_cut l set]
  rw [List.length_append]

theorem word_take (l set : Bs) : l.take (wordL l set).length = wordL l set := by
  have h := List.take_left (l₁ := wordL l set) (l₂ := cutL l set)
  rwa [word_cut] at h
theorem word_drop (l set : Bs) : l.drop (wordL l set).length = cutL l set := by
  have h := List.drop_left (l₁ := wordL l set) (l₂ := cutL l set)
  rwa [word_cut] at h

set_option maxHeartbeats 4000000 in
theorem frd_word (g : Nat) (r : FRd) (set : Bs) (hs : set.all (fun b => b.toNat < 128) = true) (w : World) (h : r.At w g) (ok : r.Ok) :
    Calls Tryz.prog 52 #[.pointer (some ⟨g, 0, none⟩), St set] w fun e w' => e = .returned (St (wordL r.s set)) ∧ ({ r with s := cutL r.s set } : FRd).At w' g ∧ Fr (· = g) w.heap.size w w' := by
  have hlt := blk_lt h
  obtain ⟨c0, c1, c2, c3, f0, f1, f2, f3⟩ := h.parts
  have o1 := ok.len
  have o2 := ok.hi
  have hC := fun w' => flow_cutLeft r.s set (by omega) hs w'
  have hL := word_len r.s set
  have hwc := word_cut r.s set
  have hsl1 : ∀ w', (Instr.slice 9 (St r.s) none (some (.int .i64 (wordL r.s set).length)) none).run Tryz.prog w' = .ok (St (wordL r.s set)) w' := fun w' => by
    rw [run_slice_string_h w' 9 _ Tryz.underlying9 .i64 _ (by omega) (by show ((wordL r.s set).length : Int) ≤ (r.s.length : Int); omega), extract_begin, Int.toNat_natCast]
    rw [word_take]
  have hsl2 : ∀ w', (Instr.slice 9 (St r.s) (some (.int .i64 (wordL r.s set).length)) none none).run Tryz.prog w' = .ok (St (cutL r.s set)) w' := fun w' => by
    rw [run_slice_string_l w' 9 _ Tryz.underlying9 .i64 _ (by omega) (by show ((wordL r.s set).length : Int) ≤ (r.s.length : Int); omega)]
    show Result.ok (Value.string (ByteArray.extract ⟨r.s.toArray⟩ ((wordL r.s set).length : Int).toNat r.s.length)) w' = _
    rw [extract_end, Int.toNat_natCast]
    rw [word_drop]
  have hsub : (r.s.length : Int) - ((cutL r.s set).length : Int) = ((wordL r.s set).length : Int) := by omega
  have hwr : IntKind.i64.wrap ((r.s.length : Int) - ((cutL r.s set).length : Int)) = ((wordL r.s set).length : Int) := by rw [IntKind.wrap_i64]; omega
  have hw64 : wrap64 ((wordL r.s set).length : Int) = ((wordL r.s set).length : Int) := by unfold wrap64; omega
  have htk := word_take r.s set
  have hdr := word_drop r.s set
  have hset : ∀ w' : World, r.At w' g → ({ r with s := cutL r.s set } : FRd).At (w'.setCell ⟨g, 1, none⟩ (St (cutL r.s set))) g := fun w' h' => h'.set1 _
  have HSET := Lib.hid hset
  have hAb : ∀ w5, Below w.drew.heap.size w.drew w5 → r.At w5 g := fun w5 hb => blk_below (show w.drew.heap[g]? = _ from h) hb hlt
  have HH := Lib.hid h
  clear hs hset hwc h ok o1 o2 hL
  generalize wordL r.s set = A at hsl1 hsl2 hsub hwr hw64 htk hdr ⊢
  generalize cutL r.s set = B at hC hsl2 hsub hwr HSET hdr ⊢
  obtain ⟨whole, s, why, at_⟩ := r
  simp only [] at c0 c1 c2 c3 hC hsl1 hsl2 hsub hwr hw64 htk hdr
  go_enter Tryz.func52, Tryz.ntmps52
  go_wp2_with fail
  go_region_with (first | (go_at_call 70; refine (hC _).mono ?_; rintro x w5 ⟨rfl, hb5⟩; obtain ⟨d0, d1, d2, d3, k0, k1, k2, k3⟩ := (hAb _ hb5).parts; simp only [] at d0 d1 d2 d3))
  all_goals
    go_wp2_with fail
    go_ret
    exact ⟨rfl, HSET.out w5 (hAb w5 hb5), (below_fr' ((Below.drew (Below.refl _ w)).trans hb5)).own _ _⟩
end Go.Proofs.YtfddjbojpgnfoaaGreatDoor
