/- A tree among the arguments: how it is opened. -/
import Derived.Test.YtbmonfcahhhdeaaGreatDoorFW3
import Derived.ChangeMaps5
import Derived.ChangeArms
import Derived.Carry
set_option linter.unusedVariables false
set_option linter.unusedSimpArgs false
namespace Go.Proofs.YtbmonfcahhhdeaaGreatDoor
open Go.RowKit

theorem list4 {α : Type} {l : List α} (h : l.length = 4) : ∃ a b c d, l = [a, b, c, d] := by
  match l, h with
  | [a, b, c, d], _ => exact ⟨a, b, c, d, rfl⟩
theorem add_add (a : Addr) (h : a.spot = none) (i j : Nat) : (a.add i).add j = ⟨a.block, a.off + i + j, none⟩ := by
  obtain ⟨b, o, s⟩ := a
  obtain rfl : s = none := h
  unfold Addr.add
  by_cases c : i = 0
  · subst c
    rw [if_pos rfl]
    by_cases d : j = 0
    · subst d; rw [if_pos rfl]; rfl
    · rw [if_neg d]; rfl
  · rw [if_neg c]
    by_cases d : j = 0
    · subst d; rw [if_pos rfl]; rfl
    · rw [if_neg d]
/-- A row of trees, from its elements. -/
theorem see_row {W : World} {a : Addr} (hs : a.spot = none) : ∀ (n : Nat), (∀ i, i < n → ∃ t cs, See W (fun _ => True) [t] cs ∧ ∀ j, j < 4 → W.cell? ((a.add (i * 4)).add j) = cs[j]?) →
    ∃ kids xs, kids.length = n ∧ See W (fun _ => True) kids xs ∧ ∀ j, j < n * 4 → W.cell? ⟨a.block, a.off + j, none⟩ = xs[j]? := by
  intro n
  induction n with
  | zero => intro _; exact ⟨[], [], rfl, .nil, fun j hj => by omega⟩
  | succ n ih =>
    intro h
    obtain ⟨kids, xs, h1, h2, h3⟩ := ih fun i hi => h i (by omega)
    obtain ⟨t, cs, h4, h5⟩ := h n (by omega)
    have hl := h2.len
    have hl4 := h4.len
    simp only [List.length_cons, List.length_nil] at hl4
    have happ : See W (fun _ => True) (kids ++ [t]) (xs ++ cs) := by
      clear h3 h1 hl ih
      induction h2 with
      | nil => exact h4
      | cons k t' a' kids' v xs' ts ys ho hK hk hr _ ih2 => exact .cons k t' a' kids' v xs' _ _ ho hK hk ih2
    refine ⟨kids ++ [t], xs ++ cs, by simp [h1], happ, fun j hj => ?_⟩
    by_cases c : j < n * 4
    · rw [List.getElem?_append_left (by omega)]; exact h3 j c
    · rw [List.getElem?_append_right (by omega), hl, h1]
      have := h5 (j - n * 4) (by omega)
      rw [add_add a hs] at this
      rw [← this]
      congr 2
      omega
set_option maxRecDepth 100000 in
/-- A tree that was read can be seen. -/
theorem open_tree_cells {H : Type} {enc : TypeId × Value → H} {W : World} {sp : Nat → Bool} {hd : Bool} : ∀ (N fuel : Nat) (cs : List Value) (x : DataW H × List MemPlace), fuel < N → DataW.trod enc Tryz.prog W 0 sp hd fuel 24 cs = some x →
    ∃ t, See W (fun _ => True) [t] cs := by
  intro N
  induction N with
  | zero => intro fuel _ _ h; omega
  | succ N ih =>
    intro fuel cs x hN h
    obtain ⟨xs, n, hfu, _, hlen, hx, hf⟩ := DataW.trod_struct Tryz.underlying24 h
    have hc4 : Tryz.prog.cellsOf 24 = 4 := by kernel_rfl
    have hci : Tryz.prog.cellsOf 3 = 1 := by kernel_rfl
    have hcs : Tryz.prog.cellsOf 9 = 1 := by kernel_rfl
    have hcl : Tryz.prog.cellsOf 22 = 1 := by kernel_rfl
    rw [hc4] at hlen
    obtain ⟨c0, c1, c2, c3, rfl⟩ := list4 hlen
    obtain ⟨y0, y1, y2, y3, rfl⟩ := list4 (show xs.length = 4 from hx)
    have f0 := hf 0 _ rfl
    have f1 := hf 1 _ rfl
    have f2 := hf 2 _ rfl
    have f3 := hf 3 _ rfl
    simp only [hci, hcs, hcl, List.drop_zero, List.drop_succ_cons, List.take_succ_cons, List.take_zero, List.getElem?_cons_zero, List.getElem?_cons_succ] at f0 f1 f2 f3
    obtain ⟨k, e0, _, _⟩ := DataW.trod_int Tryz.underlying3 f0
    obtain ⟨s1, e1, _, _⟩ := DataW.trod_string Tryz.underlying9 f1
    obtain ⟨s2, e2, _, _⟩ := DataW.trod_string Tryz.underlying9 f2
    have hst : ∀ s : ByteArray, Value.string s = St s.data.toList := fun s => by simp
    obtain rfl : c0 = .int .i64 k := by simpa [hci] using e0
    obtain rfl : c1 = St s1.data.toList := by rw [← hst]; simpa [hcs] using e1
    obtain rfl : c2 = St s2.data.toList := by rw [← hst]; simpa [hcs] using e2
    rcases DataW.trod_slice Tryz.underlying22 f3 with ⟨e3, _⟩ | ⟨a, len, cap, elems, rest, n2, hn2, e3, _, _, _, _, hel, hat, _, _⟩
    · obtain rfl : c3 = .slice none 0 0 := by simpa [hcl] using e3
      exact ⟨_, .cons k _ _ [] _ [] [] [] ⟨rfl, .inl ⟨rfl, rfl⟩⟩ (fun h => by simp at h) .nil .nil⟩
    · obtain rfl : c3 = .slice (some a) len cap := by simpa [hcl] using e3
      rw [hc4] at hat
      have hel2 : ∀ i, i < len → ∃ t cs, See W (fun _ => True) [t] cs ∧ ∀ j, j < 4 → W.cell? ((a.add (i * 4)).add j) = cs[j]? := by
        intro i hi
        have h1 := hat i hi
        rw [List.getElem?_eq_getElem (by omega)] at h1
        obtain ⟨cs', h2, h3⟩ := Option.bind_eq_some_iff.1 h1
        obtain ⟨t, ht⟩ := ih n2 cs' _ (by omega) h3
        exact ⟨t, cs', ht, (World.cells?_some h2).2.2⟩
      by_cases c : 0 < len
      · have hsp : a.spot = none := by
          obtain ⟨t, cs', ht, h4⟩ := hel2 0 c
          have h5 := h4 0 (by omega)
          have hl := ht.len
          simp only [List.length_cons, List.length_nil] at hl
          rw [List.getElem?_eq_getElem (by omega)] at h5
          have : (a.add (0 * 4)).add 0 = a := by rw [Nat.zero_mul]; rfl
          rw [this] at h5
          cases hsp : a.spot with
          | none => rfl
          | some z => exfalso; unfold World.cell? at h5; rw [hsp] at h5; split at h5 <;> simp at h5
        obtain ⟨kids, xs, g1, g2, g3⟩ := see_row hsp len hel2
        exact ⟨_, .cons k _ _ kids _ xs [] [] ⟨by have := g2.len; omega, .inr ⟨a, cap, by rw [g1], fun _ => hsp, fun j hj => g3 j (by rw [← g1]; exact hj)⟩⟩ (fun _ _ _ => trivial) g2 .nil⟩
      · obtain rfl : len = 0 := by omega
        exact ⟨_, .cons k _ _ [] _ [] [] [] ⟨rfl, .inr ⟨a, cap, rfl, fun h => by simp at h, fun j hj => by simp at hj⟩⟩ (fun h => by simp at h) .nil .nil⟩
theorem See.inv {w : World} {K : Nat → Prop} {t : T} {cs : List Value} (h : See w K [t] cs) : ∃ A n c, cs = [.int .i64 t.kind, St t.text, St t.anchor, .slice A n c] := by
  cases h with
  | cons k x a kids v xs ts ys ho hK hk hr =>
    cases hr
    obtain ⟨A, c, rfl⟩ := ho.shape
    exact ⟨_, _, _, rfl⟩
set_option maxRecDepth 100000 in
/-- A tree among the arguments. -/
theorem open_tree {H : Type} {enc : TypeId × Value → H} {W : World} {sp : Nat → Bool} {hd : Bool} {r : Reach} {b0 : Nat} {v : Value} {d : DataW H} {ps : List MemPlace} (hv : Value.okWide Tryz.prog W r b0 24 v) (h : DataW.Trod enc Tryz.prog W 0 sp hd 24 v d ps) :
    ∃ k t a kids A n c, v = .agg #[.int .i64 k, St t, St a, .slice A n c] ∧ See W (fun b => b < W.heap.size) [.mk k t a kids] [.int .i64 k, St t, St a, .slice A n c] := by
  obtain ⟨cs, rfl, _⟩ := Go.WideShapes.okWide_struct Tryz.underlying24 hv
  obtain ⟨fuel, hf⟩ := h
  obtain ⟨⟨k, t, a, kids⟩, hs⟩ := open_tree_cells (fuel + 1) fuel _ _ (Nat.lt_succ_self _) hf
  obtain ⟨A, n, c, he⟩ := hs.inv
  have he' : cs.toList = [.int .i64 k, St t, St a, .slice A n c] := by simpa [Value.cells, T.kind, T.text, T.anchor] using he
  rw [he] at hs
  refine ⟨k, t, a, kids, A, n, c, ?_, hs.keep (fun _ _ _ => rfl) (fun b hb _ => hb)⟩
  rw [← he']
end Go.Proofs.YtbmonfcahhhdeaaGreatDoor
