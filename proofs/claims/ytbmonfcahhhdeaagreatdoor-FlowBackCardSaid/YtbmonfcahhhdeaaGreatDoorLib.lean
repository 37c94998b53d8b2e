/- What the library's contracts ask of the world (tables and sentinels), carried over every frame; the library's functions in the words of lists of bytes. -/
import Derived.Test.YtbmonfcahhhdeaaGreatDoorBase
import Derived.Test.YtbmonfcahhhdeaaGreatDoorShelf
import Derived.WalkSmall
set_option linter.unusedVariables false
set_option linter.unusedSimpArgs false
namespace Go.Proofs.YtbmonfcahhhdeaaGreatDoor
open Go.RowKit

/-- What the library's tables and sentinels hold. -/
structure Facts (w : World) : Prop where
  u8 : Lib.Utf8Tabs 0 1 w
  pow : Lib.TabIs Tryz.prog w "internal/strconv.uint64pow10" .u64 Lib.pow10Tab
  syn : ∃ ev, w.cell? ⟨3, 0, none⟩ = some ev ∧ (ev = .nilIface ∨ ∃ te pe, ev = .iface te pe)
  tz : w.cell? ⟨7, 15, none⟩ = some (.int .u8 4)
  rng : ∃ ev, w.cell? ⟨4, 0, none⟩ = some ev ∧ (ev = .nilIface ∨ ∃ te pe, ev = .iface te pe)
theorem tab_below {w w' : World} {n : String} {g : Nat} {cs : Array Value} (hg : Tryz.prog.globalNamed n = some g) (hb : Below w.heap.size w w') (hv : w.var? Tryz.prog n = some cs) : w'.var? Tryz.prog n = some cs := by
  refine var?_below hb hg ?_ hv
  unfold World.var? at hv
  simp only [hg, Option.bind_some] at hv
  rcases Nat.lt_or_ge g w.heap.size with h | h
  · exact h
  · rw [Array.getElem?_eq_none h] at hv; simp at hv
theorem Facts.below {w w' : World} (h : Facts w) (hb : Below w.heap.size w w') : Facts w' := by
  obtain ⟨e1, h1, h2⟩ := h.syn
  obtain ⟨e2, h3, h4⟩ := h.rng
  exact ⟨Utf8Tabs_below h.u8 hb, tab_below (g := 5) (by kernel_rfl) hb h.pow,
    ⟨e1, (hb.cell (World.block_lt_of_cell? w _ h1)).trans h1, h2⟩, (hb.cell (World.block_lt_of_cell? w _ h.tz)).trans h.tz, ⟨e2, (hb.cell (World.block_lt_of_cell? w _ h3)).trans h3, h4⟩⟩

/-- The tables lie below block G, and nothing below G has turned since they were laid. -/
def Env (G : Nat) (w : World) : Prop := ∃ W, Facts W ∧ W.heap.size = G ∧ Below G W w
theorem Env.of {w : World} (h : Facts w) : Env w.heap.size w := ⟨w, h, rfl, Below.refl _ _⟩
theorem Env.le {G : Nat} {w : World} (h : Env G w) : G ≤ w.heap.size := by
  obtain ⟨W, _, rfl, hb⟩ := h
  exact hb.size
theorem Env.facts {G : Nat} {w : World} (h : Env G w) : Facts w := by
  obtain ⟨W, hf, rfl, hb⟩ := h
  exact hf.below hb
theorem Env.below {G B : Nat} {w w' : World} (h : Env G w) (hb : Below B w w') (hB : G ≤ B) : Env G w' := by
  obtain ⟨W, hf, rfl, h1⟩ := h
  exact ⟨W, hf, rfl, h1.trans (hb.mono hB)⟩
theorem Env.own {G : Nat} {w w' : World} (h : Env G w) (hb : Below w.heap.size w w') : Env G w' := h.below hb h.le
theorem Env.fr {S : Nat → Prop} {G B : Nat} {w w' : World} (h : Env G w) (hb : Fr S B w w') (hB : G ≤ B) (hS : ∀ k, S k → G ≤ k) : Env G w' :=
  h.below ((hb.mono (S' := S) hB fun _ _ h => h).toBelow fun k hk hs => by have := hS k hs; omega) (Nat.le_refl _)
theorem Env.drewN {G : Nat} {w : World} (h : Env G w) (n : Nat) : Env G (w.drewN n) := h.own (below_of_drewN w n)
theorem Env.alloc {G : Nat} {w : World} (h : Env G w) (o : Obj) : Env G (w.alloc o) := h.own ((Below.refl _ _).alloc (Nat.le_refl _) o)
theorem Env.setCell {G : Nat} {w : World} (h : Env G w) {a : Addr} (ha : G ≤ a.block) (v : Value) : Env G (w.setCell a v) := h.below ((Below.refl G w).setCell ha v) (Nat.le_refl _)
end Go.Proofs.YtbmonfcahhhdeaaGreatDoor
