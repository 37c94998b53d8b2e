/- The walk of flow.cutLeft. The walks of package flow's reader: word, name. -/
import Derived.Test.YtbmonfcahhhdeaaGreatDoorFRd3
import Derived.Lib.OthersKept
set_option linter.unusedVariables false
set_option linter.unusedSimpArgs false
namespace Go.Proofs.YtbmonfcahhhdeaaGreatDoor
open Go.RowKit

def cutL (l set : Bs) : Bs := l.dropWhile (set.contains ·)
def anyEq (set : Bs) (c : Int) : Bool := set.any fun d => decide ((d.toNat : Int) = c)
theorem anyEq_byte (set : Bs) (b : UInt8) : anyEq set b.toNat = set.contains b := by
  unfold anyEq
  induction set with
  | nil => rfl
  | cons d t ih =>
    rw [List.any_cons, ih, List.contains_cons]
    congr 1
    by_cases h : b = d
    · subst h; simp
    · have : ¬ ((d.toNat : Int) = (b.toNat : Int)) := fun e => h (UInt8.toNat.inj (by omega))
      simp [h, this]
theorem eqd (c x : Int) : (c == x) = decide (x = c) := by
  by_cases h : c = x
  · simp [h]
  · have h2 : ¬ x = c := fun e => h e.symm
    simp [h, h2]
theorem anyEq_high (set : Bs) (c : Int) (hs : set.all (fun b => b.toNat < 128) = true) (hc : 128 ≤ c) : anyEq set c = false := by
  unfold anyEq
  rw [List.any_eq_false]
  intro d hd
  have := List.all_eq_true.1 hs d hd
  simp at this
  simp; omega

set_option maxHeartbeats 4000000 in
theorem flow_cutLeft (l set : Bs) (hl : l.length ≤ 140737488355328) (hs : set.all (fun b => b.toNat < 128) = true) (w : World) :
    Calls Tryz.prog 134 #[St l, St set] w fun e w' => e = .returned (St (cutL l set)) ∧ Below w.heap.size w w' := by
  have HS := Lib.hid (And.intro hl hs)
  clear hl hs
  obtain ⟨F, hF⟩ : ∃ F, w.heap.size = F := ⟨_, rfl⟩
  go_enter Tryz.func134, Tryz.ntmps134
  go_wp2_with fail
  go_loopw [] (fun wr => ∃ k : Nat, k ≤ l.length ∧ Hid ((l.drop k).dropWhile (set.contains ·) = cutL l set ∧ wr.heap[F]? = some (.stringIter ⟨l.toArray⟩ k) ∧ Below F w wr ∧ F < wr.heap.size)) (fun wr => l.length - wr.iterPos F)
  case atStart => exact ⟨0, by omega, rfl, by subst hF; exact World.iter_heap _ _ _, by subst hF; exact (Below.refl _ _).alloc (Nat.le_refl _) _, by subst hF; simp [World.iter]⟩
  case round =>
    obtain ⟨k, hk, HX⟩ := hrel
    have hpos := iterPos_of HX.out.2.1
    by_cases hlt : k < l.length
    · obtain ⟨c, n, hc, hn⟩ : ∃ (c : Int) (n : Nat), (Utf8.decode ⟨l.toArray⟩ k).1 = c ∧ (Utf8.decode ⟨l.toArray⟩ k).2 = n := ⟨_, _, rfl, rfl⟩
      have hnx := Lib.run_next_any_at (P := Tryz.prog) wr F ⟨l.toArray⟩ k 0 HX.out.2.1 hlt
      rw [hc, hn] at hnx
      go_wp2_with fail
      obtain ⟨I, hI⟩ : ∃ I, wr.heap.size = I := ⟨_, rfl⟩
      have hFI : F < I := by rw [← hI]; exact HX.out.2.2.2
      have hi0 : (wr.iterAt F ⟨l.toArray⟩ (k + n)).heap.size = I := by rw [Lib.iterAt_size]; exact hI
      go_loopw [7] (fun v wx => ∃ j : Nat, j ≤ set.length ∧ v = .bool (anyEq (set.take j) c) ∧ Hid (wx.heap[I]? = some (.stringIter ⟨set.toArray⟩ j) ∧ wx.heap[F]? = some (.stringIter ⟨l.toArray⟩ (k + n)) ∧ Below F w wx ∧ I < wx.heap.size)) (fun _ wx => set.length - wx.iterPos I)
      case atStart =>
        refine ⟨0, by omega, rfl, by rw [← hi0]; exact World.iter_heap _ _ _, ?_, ?_, by rw [← hi0]; simp [World.iter]⟩
        · exact blk_alloc (Lib.iterAt_heap _ _ _ _ _ HX.out.2.1)
        · exact (Lib.below_iterAt HX.out.2.2.1 (Nat.le_refl _) _ _).alloc (by rw [hi0]; omega) _
      case round =>
        obtain ⟨j, hj, rfl, HY⟩ := hrel
        have hpos2 := iterPos_of HY.out.1
        by_cases hlt2 : j < set.length
        · have hd : set[j]? = some set[j] := List.getElem?_eq_getElem hlt2
          have hg : ∀ h, (⟨set.toArray⟩ : ByteArray)[j]'h = set[j] := fun h => by rw [bs_get set j hlt2 h, List.getD_eq_getElem?_getD, hd]; rfl
          have hnx2 := Lib.run_next_ascii_at (P := Tryz.prog) _ I ⟨set.toArray⟩ j 0 HY.out.1 hlt2 (by
            have := List.all_eq_true.1 HS.out.2 _ (List.getElem_mem hlt2)
            rw [hg]; simpa using this)
          rw [hg] at hnx2
          have hstep : anyEq (set.take (j + 1)) c = (anyEq (set.take j) c || decide ((set[j].toNat : Int) = c)) := by
            unfold anyEq
            rw [List.take_add_one, hd, List.any_append]
            simp
          generalize set[j] = d at hnx2 hstep
          have HZ : Hid ((wr.iterAt I ⟨set.toArray⟩ (j + 1)).heap[I]? = some (.stringIter ⟨set.toArray⟩ (j + 1)) ∧ (wr.iterAt I ⟨set.toArray⟩ (j + 1)).heap[F]? = some (.stringIter ⟨l.toArray⟩ (k + n)) ∧ Below F w (wr.iterAt I ⟨set.toArray⟩ (j + 1)) ∧ I < (wr.iterAt I ⟨set.toArray⟩ (j + 1)).heap.size) :=
            ⟨Lib.iterAt_heap _ _ _ _ _ HY.out.1, by rw [Lib.iterAt_other _ _ _ _ _ (by omega)]; exact HY.out.2.1, Lib.below_iterAt HY.out.2.2.1 (by omega) _ _, by rw [Lib.iterAt_size]; exact HY.out.2.2.2⟩
          have hpos3 := iterPos_of HZ.out.1
          cases hin : anyEq (set.take j) c
          · rw [hin, Bool.false_or] at hstep
            go_wp2_with fail
            exact ⟨⟨j + 1, by omega, by rw [hstep, eqd], HZ⟩, by rw [hpos2, hpos3]; omega⟩
          · rw [hin, Bool.true_or] at hstep
            go_wp2_with fail
            exact ⟨⟨j + 1, by omega, by rw [hstep], HZ⟩, by rw [hpos2, hpos3]; omega⟩
        · have hnx2 := Lib.run_next_end_at (P := Tryz.prog) _ I ⟨set.toArray⟩ j 0 HY.out.1 hlt2
          have hjs : set.take j = set := List.take_of_length_le (by omega)
          rw [hjs]
          have hsl : ∀ w', (Instr.slice 9 (St l) (some (.int .i64 k)) none none).run Tryz.prog w' = .ok (St (l.drop k)) w' := fun w' => by
            rw [run_slice_string_l w' 9 _ Tryz.underlying9 .i64 _ (by omega) (by show (k : Int) ≤ (l.length : Int); omega)]
            show Result.ok (Value.string (ByteArray.extract ⟨l.toArray⟩ (k : Int).toNat l.length)) w' = _
            rw [extract_end, Int.toNat_natCast]
          have hdk : l.drop k = l[k] :: l.drop (k + 1) := List.drop_eq_getElem_cons hlt
          have hgk : ∀ h, (⟨l.toArray⟩ : ByteArray)[k]'h = l[k] := fun h => by rw [bs_get l k hlt h, List.getD_eq_getElem?_getD, List.getElem?_eq_getElem hlt]; rfl
          have hcb : anyEq set c = set.contains l[k] ∧ (anyEq set c = true → n = 1) := by
            by_cases hb : l[k].toNat < 128
            · have := decode_ascii ⟨l.toArray⟩ k hlt (by rw [hgk]; exact hb)
              rw [hgk] at this
              rw [this] at hc hn
              simp only [] at hc hn
              rw [← hc]
              exact ⟨anyEq_byte _ _, fun _ => hn.symm⟩
            · have := decode_high ⟨l.toArray⟩ k hlt (by rw [hgk]; omega)
              have hf := anyEq_high set c HS.out.2 (by rw [← hc]; omega)
              refine ⟨?_, fun h => by rw [hf] at h; cases h⟩
              rw [hf]
              symm
              rw [Bool.eq_false_iff]
              intro h
              have := List.all_eq_true.1 HS.out.2 l[k] (by simpa using h)
              simp at this
              omega
          cases hres : anyEq set c
          · have hX : l.drop k = cutL l set := by
              rw [← HX.out.1, hdk, List.dropWhile_cons, ← hcb.1, hres]; rfl
            clear hcb hc hn hdk
            go_wp2_with fail
            go_ret
            exact ⟨rfl, by rw [hF]; exact HY.out.2.2.1⟩
          · have hn1 := hcb.2 hres
            subst hn1
            have hX : (l.drop (k + 1)).dropWhile (set.contains ·) = cutL l set := by
              rw [← HX.out.1, hdk, List.dropWhile_cons, ← hcb.1, hres]; rfl
            have hpos4 := iterPos_of HY.out.2.1
            have HV : Hid ((l.drop (k + 1)).dropWhile (set.contains ·) = cutL l set ∧ wr.heap[F]? = some (.stringIter ⟨l.toArray⟩ (k + 1)) ∧ Below F w wr ∧ F < wr.heap.size) := ⟨hX, HY.out.2.1, HY.out.2.2.1, by have := HY.out.2.2.2; omega⟩
            clear hcb hc hn hdk hX
            go_wp2_with fail
            exact ⟨⟨k + 1, by omega, HV⟩, by rw [hpos4, hpos]; omega⟩
    · have hnx := Lib.run_next_end_at (P := Tryz.prog) wr F ⟨l.toArray⟩ k 0 HX.out.2.1 hlt
      have hkl : k = l.length := by omega
      go_wp2_with fail
      go_ret
      exact ⟨by rw [← HX.out.1, hkl, List.drop_length]; rfl, by rw [hF]; exact HX.out.2.2.1⟩
end Go.Proofs.YtbmonfcahhhdeaaGreatDoor

namespace Go.Proofs.YtbmonfcahhhdeaaGreatDoor
open Go.RowKit

def wordL (l set : Bs) : Bs := l.takeWhile (set.contains ·)
theorem word_cut (l set : Bs) : wordL l set ++ cutL l set = l := List.takeWhile_append_dropWhile
theorem word_len (l set : Bs) : (wordL l set).length + (cutL l set).length = l.length := by
  conv => rhs; rw [← word_cut l set]
  rw [List.length_append]

theorem word_take (l set : Bs) : l.take (wordL l set).length = wordL l set := by
  have h := List.take_left (l₁ := wordL l set) (l₂ := cutL l set)
  rwa [word_cut] at h
theorem word_drop (l set : Bs) : l.drop (wordL l set).length = cutL l set := by
  have h := List.drop_left (l₁ := wordL l set) (l₂ := cutL l set)
  rwa [word_cut] at h

set_option maxHeartbeats 4000000 in
theorem frd_word (g : Nat) (r : FRd) (set : Bs) (hs : set.all (fun b => b.toNat < 128) = true) (w : World) (h : r.At w g) (ok : r.Ok) :
    Calls Tryz.prog 99 #[.pointer (some ⟨g, 0, none⟩), St set] w fun e w' => e = .returned (St (wordL r.s set)) ∧ ({ r with s := cutL r.s set } : FRd).At w' g ∧ Fr (· = g) w.heap.size w w' := by
  have hlt := blk_lt h
  obtain ⟨c0, c1, c2, c3, f0, f1, f2, f3⟩ := h.parts
  have o1 := ok.len
  have o2 := ok.hi
  have hC := fun w' => flow_cutLeft r.s set (by omega) hs w'
  have hL := word_len r.s set
  have hwc := word_cut r.s set
  have hsl1 : ∀ w', (Instr.slice 9 (St r.s) none (some (.int .i64 (wordL r.s set).length)) none).run Tryz.prog w' = .ok (St (wordL r.s set)) w' := fun w' => by
    rw [run_slice_string_h w' 9 _ Tryz.underlying9 .i64 _ (by omega) (by show ((wordL r.s set).length : Int) ≤ (r.s.length : Int); omega), extract_begin, Int.toNat_natCast]
    rw [word_take]
  have hsl2 : ∀ w', (Instr.slice 9 (St r.s) (some (.int .i64 (wordL r.s set).length)) none none).run Tryz.prog w' = .ok (St (cutL r.s set)) w' := fun w' => by
    rw [run_slice_string_l w' 9 _ Tryz.underlying9 .i64 _ (by omega) (by show ((wordL r.s set).length : Int) ≤ (r.s.length : Int); omega)]
    show Result.ok (Value.string (ByteArray.extract ⟨r.s.toArray⟩ ((wordL r.s set).length : Int).toNat r.s.length)) w' = _
    rw [extract_end, Int.toNat_natCast]
    rw [word_drop]
  have hsub : (r.s.length : Int) - ((cutL r.s set).length : Int) = ((wordL r.s set).length : Int) := by omega
  have hwr : IntKind.i64.wrap ((r.s.length : Int) - ((cutL r.s set).length : Int)) = ((wordL r.s set).length : Int) := by rw [IntKind.wrap_i64]; omega
  have hw64 : wrap64 ((wordL r.s set).length : Int) = ((wordL r.s set).length : Int) := by unfold wrap64; omega
  have htk := word_take r.s set
  have hdr := word_drop r.s set
  have hset : ∀ w' : World, r.At w' g → ({ r with s := cutL r.s set } : FRd).At (w'.setCell ⟨g, 1, none⟩ (St (cutL r.s set))) g := fun w' h' => h'.set1 _
  have HSET := Lib.hid hset
  have hAb : ∀ w5, Below w.drew.heap.size w.drew w5 → r.At w5 g := fun w5 hb => blk_below (show w.drew.heap[g]? = _ from h) hb hlt
  have HH := Lib.hid h
  clear hs hset hwc h ok o1 o2 hL
  generalize wordL r.s set = A at hsl1 hsl2 hsub hwr hw64 htk hdr ⊢
  generalize cutL r.s set = B at hC hsl2 hsub hwr HSET hdr ⊢
  obtain ⟨whole, s, why, at_⟩ := r
  simp only [] at c0 c1 c2 c3 hC hsl1 hsl2 hsub hwr hw64 htk hdr
  go_enter Tryz.func99, Tryz.ntmps99
  go_wp2_with fail
  go_region_with (first | (go_at_call 134; refine (hC _).mono ?_; rintro x w5 ⟨rfl, hb5⟩; obtain ⟨d0, d1, d2, d3, k0, k1, k2, k3⟩ := (hAb _ hb5).parts; simp only [] at d0 d1 d2 d3))
  all_goals
    go_wp2_with fail
    go_ret
    exact ⟨rfl, HSET.out w5 (hAb w5 hb5), (below_fr' ((Below.drew (Below.refl _ w)).trans hb5)).own _ _⟩
end Go.Proofs.YtbmonfcahhhdeaaGreatDoor
