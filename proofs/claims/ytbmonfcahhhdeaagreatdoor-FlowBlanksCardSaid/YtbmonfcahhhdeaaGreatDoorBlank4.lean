/- FlowBlanks' plain law, first half: a reader whose whole is longer by n reads the same, and its faults stand n farther. FlowBlanks' plain law: value n farther. The reader's model is total where the fuel is enough. FlowBlanks' plain law: blanks ahead of a text. -/
import Derived.Test.YtbmonfcahhhdeaaGreatDoorFMod2
import Derived.Test.YtbmonfcahhhdeaaGreatDoorDeep2
set_option linter.unusedVariables false
set_option linter.unusedSimpArgs false
namespace Go.Proofs.YtbmonfcahhhdeaaGreatDoor
open Go.RowKit

/-- The same reader, n farther. -/
def Sh (n : Nat) (r r' : FRd) : Prop :=
  r'.whole = r.whole + n ∧ r'.s = r.s ∧ ((r.why = 0 ∧ r.at_ = 0 ∧ r'.why = 0 ∧ r'.at_ = 0) ∨ (r.why ≠ 0 ∧ r'.why = r.why ∧ r'.at_ = r.at_ + n))
theorem Sh.well {n : Nat} {r r' : FRd} (h : Sh n r r') : r'.well = r.well := by
  unfold FRd.well
  rcases h.2.2 with ⟨a, b, c, d⟩ | ⟨a, b, c⟩
  · rw [a, b, c, d]
  · rw [b, decide_eq_false a, Bool.false_and, Bool.false_and]
theorem Sh.next {n : Nat} {r r' : FRd} (h : Sh n r r') (cs : Bs) : r'.next cs = r.next cs := by
  unfold FRd.next
  rw [h.well, h.2.1]
theorem Sh.pos {n : Nat} {r r' : FRd} (h : Sh n r r') : r'.pos = r.pos + n := by
  unfold FRd.pos
  rw [h.1, h.2.1]
  omega
theorem Sh.skip {n : Nat} {r r' : FRd} (h : Sh n r r') (k : Nat) : Sh n (r.skip k) (r'.skip k) := ⟨h.1, by show trimL (r'.s.drop k) [32] = trimL (r.s.drop k) [32]; rw [h.2.1], h.2.2⟩
theorem Sh.dropS {n : Nat} {r r' : FRd} (h : Sh n r r') (k : Nat) : Sh n (r.dropS k) (r'.dropS k) := ⟨h.1, by show r'.s.drop k = r.s.drop k; rw [h.2.1], h.2.2⟩
theorem Sh.cut {n : Nat} {r r' : FRd} (h : Sh n r r') (set : Bs) : Sh n (r.cut set) (r'.cut set) := ⟨h.1, by show cutL r'.s set = cutL r.s set; rw [h.2.1], h.2.2⟩
theorem Sh.wrong {n : Nat} {r r' : FRd} (h : Sh n r r') {e : Int} (he : e ≠ 0) {a a' : Int} (ha : a' = a + n) : Sh n (r.wrong e a) (r'.wrong e a') := by
  unfold FRd.wrong
  rw [h.well]
  split
  · exact ⟨h.1, h.2.1, .inr ⟨he, rfl, ha⟩⟩
  · exact h
theorem Sh.stray {n : Nat} {r r' : FRd} (h : Sh n r r') : Sh n r.stray r'.stray := by
  unfold FRd.stray
  rw [h.2.1]
  refine Sh.wrong ?_ (by decide) h.pos
  split
  · exact h.wrong (by decide) h.1
  · exact h
theorem Sh.name {n : Nat} {r r' : FRd} (h : Sh n r r') : Sh n r.name r'.name := by
  unfold FRd.name
  rw [h.2.1]
  split
  · exact (h.cut _).stray
  split
  · exact (h.cut _).wrong (by decide) (by rw [h.pos]; omega)
  · exact h.cut _
theorem Sh.tag1 {n : Nat} {r r' : FRd} (h : Sh n r r') : r'.tag.1 = r.tag.1 := by
  unfold FRd.tag
  rw [(h.dropS 1).next, h.2.1]
  split
  · rfl
  split
  · rfl
  split <;> rfl
theorem Sh.tag2 {n : Nat} {r r' : FRd} (h : Sh n r r') : Sh n r.tag.2 r'.tag.2 := by
  unfold FRd.tag
  rw [(h.dropS 1).next, h.2.1]
  split
  · exact (h.dropS 1).stray
  split
  · exact ((h.dropS 2).cut _).stray
  split
  · exact ((h.dropS 2).cut _).wrong (by decide) (h.dropS 2).pos
  · exact (h.dropS 2).cut _
theorem Sh.after {n : Nat} {r r' : FRd} (h : Sh n r r') (f : Bool) : Sh n (r.after f) (r'.after f) := by
  unfold FRd.after
  rw [h.2.1, h.next, h.next]
  refine Sh.skip ?_ 0
  split
  · exact h.wrong (by decide) h.pos
  · exact h
/-- What a fault leaves ill. -/
theorem wrong_is_ill (r : FRd) {e : Int} (he : e ≠ 0) (a : Int) : (r.wrong e a).well = false := by
  unfold FRd.wrong
  cases h : r.well with
  | true => rw [if_pos rfl]; show (decide (e = 0) && _) = false; rw [decide_eq_false he]; rfl
  | false => rw [if_neg (by decide)]; exact h
theorem stray_is_ill (r : FRd) : r.stray.well = false := wrong_is_ill _ (by decide) _
theorem tag_zero (r : FRd) (h : r.tag.1 = 0) : r.tag.2.well = false := by
  unfold FRd.tag at h ⊢
  split at h
  · rename_i h1; rw [if_pos h1]; exact stray_is_ill _
  rename_i h1
  rw [if_neg h1]
  split at h
  · rename_i h2; rw [if_pos h2]; exact stray_is_ill _
  rename_i h2
  rw [if_neg h2]
  split at h
  · rename_i h3; rw [if_pos h3]; exact wrong_is_ill _ (by decide) _
  · rename_i h3; exact absurd h h3
theorem after_ill (r : FRd) (f : Bool) (h : r.well = false) : (r.after f).well = false := by
  unfold FRd.after
  show (if _ then r.wrong 3 r.pos else r).well = false
  split
  · exact wrong_is_ill _ (by decide) _
  · exact h
/-- The same properties, n farther. -/
def PSh (n : Nat) (r : FRd) (p p' : Pr) : Prop := p'.anchor = p.anchor ∧ p'.tag = p.tag ∧ ((p.tag = 0 ∧ p.tagAt = 0 ∧ p'.tagAt = 0) ∨ (p'.tagAt = p.tagAt + n ∧ (p.tag = 0 → r.well = false)))
theorem Sh.props {n : Nat} (f : Bool) : ∀ (k : Nat) (r r' : FRd) (p p' : Pr) (q : Pr) (r1 : FRd), Sh n r r' → PSh n r p p' → FRd.props f k r p = some (q, r1) → ∃ q' r1', FRd.props f k r' p' = some (q', r1') ∧ Sh n r1 r1' ∧ PSh n r1 q q'
  | 0, r, r', p, p', q, r1, h, hp, hm => by simp [FRd.props] at hm
  | k + 1, r, r', p, p', q, r1, h, hp, hm => by
    rw [FRd.props] at hm ⊢
    rw [h.well, hp.1, hp.2.1, h.next, h.next, h.2.1, h.tag1]
    by_cases c1 : r.well = false
    · rw [if_pos c1] at hm ⊢
      simp only [Option.some.injEq, Prod.mk.injEq] at hm
      obtain ⟨rfl, rfl⟩ := hm
      exact ⟨p', r', rfl, h, hp⟩
    rw [if_neg c1] at hm ⊢
    by_cases c2 : p.anchor = [] ∧ r.next [38] = true
    · rw [if_pos c2] at hm ⊢
      refine Sh.props f k _ _ ⟨wordL (r.s.drop 1) lettersBs, p.tag, p.tagAt⟩ ⟨wordL (r.s.drop 1) lettersBs, p.tag, p'.tagAt⟩ q r1 (((h.dropS 1).name).after f) ⟨rfl, rfl, ?_⟩ hm
      rcases hp.2.2 with ⟨a, b, c⟩ | ⟨a, b⟩
      · exact .inl ⟨a, b, c⟩
      · exact .inr ⟨a, fun h0 => absurd (b h0) c1⟩
    rw [if_neg c2] at hm ⊢
    by_cases c3 : p.tag = 0 ∧ r.next [33] = true
    · rw [if_pos c3] at hm ⊢
      refine Sh.props f k _ _ ⟨p.anchor, r.tag.1, r.pos⟩ ⟨p.anchor, r.tag.1, r'.pos⟩ q r1 (h.tag2.after f) ⟨rfl, rfl, .inr ⟨h.pos, fun h0 => after_ill _ _ (tag_zero r h0)⟩⟩ hm
    · rw [if_neg c3] at hm ⊢
      simp only [Option.some.injEq, Prod.mk.injEq] at hm
      obtain ⟨rfl, rfl⟩ := hm
      exact ⟨p', r', rfl, h, hp⟩
end Go.Proofs.YtbmonfcahhhdeaaGreatDoor

namespace Go.Proofs.YtbmonfcahhhdeaaGreatDoor
open Go.RowKit

/-- A fault of Read's is one whose number is not 0. -/
theorem qreadL_why (q : UInt8) (tot : Nat) : ∀ (f k : Nat) (rest acc : Bs), (qreadL q tot f k rest acc).2.2.1 = 0 → (qreadL q tot f k rest acc).2.2.2 = 0
  | 0, k, rest, acc, h => by simp [qreadL] at h
  | f + 1, k, rest, acc, h => by
    unfold qreadL at h ⊢
    by_cases h0 : rest = []
    · rw [if_pos h0] at h; simp at h
    rw [if_neg h0] at h ⊢
    by_cases h1 : (qone q rest).2.2 = 4
    · rw [if_pos h1] at h; simp at h
    rw [if_neg h1] at h ⊢
    by_cases h2 : (qone q rest).2.2 ≠ 0
    · rw [if_pos h2] at h; exact absurd h h2
    rw [if_neg h2] at h ⊢
    by_cases h3 : (qone q rest).2.1 = 0
    · rw [if_pos h3]
    rw [if_neg h3] at h ⊢
    exact qreadL_why q tot f _ _ _ h
theorem qread_why (l : Bs) (h : (qread l).2.2.1 = 0) : (qread l).2.2.2 = 0 := by
  rcases l with _ | ⟨q, t⟩
  · simp [qread] at h
  · simp only [qread] at h ⊢
    split at h
    · rename_i hq
      rw [if_pos hq]
      exact qreadL_why _ _ _ _ _ _ h
    · simp at h
theorem Sh.wrongAs {n : Nat} {r r' : FRd} (h : Sh n r r') {e a : Int} (he : e = 0 → a = 0) : Sh n (r.wrongAs e a) (r'.wrongAs e a) := by
  unfold FRd.wrongAs
  by_cases c : e = 0
  · rw [if_pos ⟨c, he c⟩, if_pos ⟨c, he c⟩]; exact h
  · rw [if_neg (fun x => c x.1), if_neg (fun x => c x.1)]
    exact h.wrong c (by rw [h.pos]; omega)
theorem Sh.scalar {n : Nat} {r r' : FRd} (h : Sh n r r') (f : Bool) : (r'.scalar f).1 = (r.scalar f).1 ∧ (r'.scalar f).2.1 = (r.scalar f).2.1 ∧ Sh n (r.scalar f).2.2 (r'.scalar f).2.2 := by
  unfold FRd.scalar
  rw [h.well, h.next, h.2.1]
  split
  · split
    · exact ⟨rfl, rfl, (h.wrongAs (qread_why _)).dropS _⟩
    · refine ⟨rfl, rfl, ?_⟩
      dsimp only
      split
      · exact h.stray.dropS _
      · exact h.dropS _
  · exact ⟨rfl, rfl, h⟩
theorem Sh.made {n : Nat} {r r' : FRd} (h : Sh n r r') (t : Bs) (q : Bool) (tag tagAt tagAt' : Int) (ht : tag ≠ 0 → tagAt' = tagAt + n) : (r'.made t q tag tagAt').1 = (r.made t q tag tagAt).1 ∧ Sh n (r.made t q tag tagAt).2 (r'.made t q tag tagAt').2 := by
  unfold FRd.made
  split
  · exact ⟨rfl, h⟩
  split
  · rename_i c
    exact ⟨rfl, h.wrong (by decide) (ht c.1)⟩
  split
  · exact ⟨rfl, h⟩
  · exact ⟨rfl, h⟩
/-- The same part, n farther. -/
def ShP (n : Nat) {α : Type} (v v' : FRd → Option (α × FRd)) : Prop := ∀ r r' t r1, Sh n r r' → v r = some (t, r1) → ∃ r1', v' r' = some (t, r1') ∧ Sh n r1 r1'
theorem ShP.item {n : Nat} {v : FRd → Option (T × FRd)} (hv : ShP n v v) : ShP n (FRd.item v) (FRd.item v) := by
  intro r r' t r1 h hm
  have hi : Sh n r.itemR r'.itemR := by
    unfold FRd.itemR
    rw [h.2.1, h.next]
    split
    · exact h.stray
    · exact h
  unfold FRd.item at hm ⊢
  rcases hx : v r.itemR with _ | ⟨u, r2⟩
  · rw [hx] at hm; cases hm
  rw [hx] at hm
  simp only [Option.some.injEq, Prod.mk.injEq] at hm
  obtain ⟨rfl, rfl⟩ := hm
  obtain ⟨r2', e, h2⟩ := hv _ _ _ _ hi hx
  exact ⟨r2', by rw [e], h2⟩
theorem Sh.colon {n : Nat} {r r' : FRd} (h : Sh n r r') : r'.colon = r.colon := by
  unfold FRd.colon
  rw [h.next, h.2.1]
theorem ShP.entry {n : Nat} {v : FRd → Option (T × FRd)} (hv : ShP n v v) : ShP n (FRd.entry v) (FRd.entry v) := by
  intro r r' t r1 h hm
  obtain ⟨s1, s2, s3⟩ := h.scalar true
  have hK : Sh n r.keyR r'.keyR := by
    unfold FRd.keyR
    rw [s1, s2]
    split
    · exact s3.stray
    · exact s3
  have hk := hK.made (r.scalar true).1 (r.scalar true).2.1 0 0 0 (fun c => absurd rfl c)
  have e1 : r'.key.1 = r.key.1 := by unfold FRd.key; rw [s1, s2]; exact hk.1
  have e2 : Sh n r.key.2 r'.key.2 := by unfold FRd.key; rw [s1, s2]; exact hk.2
  unfold FRd.entry at hm ⊢
  rw [(e2.skip 0).colon, e1, s1]
  split at hm
  · rename_i c
    rw [if_pos c]
    rcases hx : v ((r.key.2.skip 0).skip 1) with _ | ⟨u, r2⟩
    · rw [hx] at hm; cases hm
    rw [hx] at hm
    simp only [Option.some.injEq, Prod.mk.injEq] at hm
    obtain ⟨rfl, rfl⟩ := hm
    obtain ⟨r2', e, h2⟩ := hv _ _ _ _ ((e2.skip 0).skip 1) hx
    exact ⟨r2', by rw [e], h2⟩
  · rename_i c
    rw [if_neg c]
    simp only [Option.some.injEq, Prod.mk.injEq] at hm
    obtain ⟨rfl, rfl⟩ := hm
    exact ⟨_, rfl, (e2.skip 0).stray⟩
theorem ShP.partsL {n : Nat} {v : FRd → Option (List T × FRd)} (hv : ShP n v v) (e : UInt8) : ∀ (m : Nat) (r r' : FRd) (l l1 : List T) (r1 : FRd), Sh n r r' → FRd.partsL v e m r l = some (l1, r1) → ∃ r1', FRd.partsL v e m r' l = some (l1, r1') ∧ Sh n r1 r1'
  | 0, r, r', l, l1, r1, h, hm => by simp [FRd.partsL] at hm
  | m + 1, r, r', l, l1, r1, h, hm => by
    rw [FRd.partsL] at hm ⊢
    rw [h.well, h.next]
    split at hm
    · rename_i c
      rw [if_pos c]
      rcases hx : v r with _ | ⟨ks, r2⟩
      · rw [hx] at hm; cases hm
      rw [hx] at hm
      obtain ⟨r2', ex, h2⟩ := hv _ _ _ _ h hx
      rw [ex]
      simp only [] at hm ⊢
      rw [(h2.skip 0).next, (h2.skip 0).next]
      refine ShP.partsL hv e m _ _ _ _ _ ?_ hm
      split
      · exact (h2.skip 0).skip 1
      split
      · exact h2.skip 0
      · exact (h2.skip 0).stray
    · rename_i c
      rw [if_neg c]
      simp only [Option.some.injEq, Prod.mk.injEq] at hm
      obtain ⟨rfl, rfl⟩ := hm
      exact ⟨r', rfl, h⟩
theorem ShP.list {n : Nat} {v : FRd → Option (List T × FRd)} (hv : ShP n v v) (kind : Int) (e : UInt8) (m : Nat) (deep : Int) (p p' : Pr) (r r' : FRd) (t : T) (r1 : FRd) (h : Sh n r r') (hp : PSh n r p p') (hm : FRd.list v kind e m deep p r = some (t, r1)) :
    ∃ r1', FRd.list v kind e m deep p' r' = some (t, r1') ∧ Sh n r1 r1' := by
  unfold FRd.list at hm ⊢
  split at hm
  · rename_i c
    rw [if_pos c]
    simp only [Option.some.injEq, Prod.mk.injEq] at hm
    obtain ⟨rfl, rfl⟩ := hm
    exact ⟨_, rfl, h.wrong (by decide) h.pos⟩
  · rename_i c
    rw [if_neg c]
    unfold FRd.parts at hm ⊢
    rcases hx : FRd.partsL v e m (r.skip 1) [] with _ | ⟨l, r2⟩
    · rw [hx] at hm; cases hm
    rw [hx] at hm
    obtain ⟨r2', ex, h2⟩ := ShP.partsL hv e m _ _ _ _ _ (h.skip 1) hx
    rw [ex]
    simp only [Option.some.injEq, Prod.mk.injEq] at hm ⊢
    obtain ⟨rfl, rfl⟩ := hm
    rw [hp.1, hp.2.1, h2.well]
    refine ⟨_, ⟨rfl, rfl⟩, ?_⟩
    have h3 : Sh n (if r2.well = true then r2.dropS 1 else r2) (if r2.well = true then r2'.dropS 1 else r2') := by
      split
      · exact h2.dropS 1
      · exact h2
    split
    · rename_i c2
      refine h3.wrong (by decide) ?_
      rcases hp.2.2 with ⟨a, _, _⟩ | ⟨a, _⟩
      · exact absurd a c2.1
      · exact a
    · exact h3
theorem value_sh (n : Nat) : ∀ (k : Nat) (f : Bool) (deep : Int), ShP n (fun r => FRd.value k r f deep) (fun r => FRd.value k r f deep)
  | 0, f, deep => fun r r' t r1 h hm => by simp [FRd.value] at hm
  | k + 1, f, deep => by
    intro r r' t r1 h hm
    have ih := value_sh n k true (deep + 1)
    simp only [] at hm ⊢
    rw [FRd.value] at hm ⊢
    rcases hx : FRd.props f 4 (r.skip 0) Pr.no with _ | ⟨p, rp⟩
    · rw [hx] at hm; cases hm
    rw [hx] at hm
    obtain ⟨p', rp', ex, h2, hp⟩ := Sh.props f 4 _ _ Pr.no Pr.no p rp (h.skip 0) ⟨rfl, rfl, .inl ⟨rfl, rfl, rfl⟩⟩ hx
    rw [ex]
    simp only [] at hm ⊢
    rw [h2.next, h2.next, h2.next]
    split at hm
    · rename_i c
      rw [if_pos c]
      have hwell : rp.well = true := by
        cases hw : rp.well with
        | true => rfl
        | false => rw [next_ill hw] at c; exact c
      have hs : Sh n (rp.starR p) (rp'.starR p') := by
        unfold FRd.starR
        rw [hp.1, hp.2.1]
        rcases hp.2.2 with ⟨a, b, d⟩ | ⟨a, b⟩
        · rw [b, d]
          refine Sh.dropS ?_ 1
          split
          · exact h2
          · exact h2.stray
        · have ht : p.tag ≠ 0 := fun h0 => by rw [b h0] at hwell; cases hwell
          rw [if_neg (fun x => ht x.2.1), if_neg (fun x => ht x.2.1)]
          exact h2.stray.dropS 1
      simp only [Option.some.injEq, Prod.mk.injEq] at hm ⊢
      obtain ⟨rfl, rfl⟩ := hm
      rw [hs.2.1]
      exact ⟨_, ⟨rfl, rfl⟩, hs.name⟩
    rename_i c1
    rw [if_neg c1]
    split at hm
    · rename_i c
      rw [if_pos c]
      exact ShP.list ih.item _ _ _ _ _ _ _ _ _ _ h2 hp hm
    rename_i c2
    rw [if_neg c2]
    split at hm
    · rename_i c
      rw [if_pos c]
      exact ShP.list ih.entry _ _ _ _ _ _ _ _ _ _ h2 hp hm
    rename_i c3
    rw [if_neg c3]
    obtain ⟨s1, s2, s3⟩ := h2.scalar f
    have hk := s3.made (rp.scalar f).1 (rp.scalar f).2.1 p.tag p.tagAt p'.tagAt (fun c => by
      rcases hp.2.2 with ⟨a, _, _⟩ | ⟨a, _⟩
      · exact absurd a c
      · exact a)
    simp only [Option.some.injEq, Prod.mk.injEq] at hm ⊢
    obtain ⟨rfl, rfl⟩ := hm
    rw [s1, s2, hp.1, hp.2.1, hk.1]
    exact ⟨_, ⟨rfl, rfl⟩, hk.2⟩
end Go.Proofs.YtbmonfcahhhdeaaGreatDoor

namespace Go.Proofs.YtbmonfcahhhdeaaGreatDoor
open Go.RowKit

/-- How many rounds props may still take. -/
def propsLeft (r : FRd) (p : Pr) : Nat := if r.well = true then (if p.anchor = [] then 1 else 0) + (if p.tag = 0 then 1 else 0) else 0
theorem name_ill (r : FRd) (h : wordL r.s lettersBs = []) : r.name.well = false := by
  unfold FRd.name
  rw [if_pos h]
  exact stray_is_ill _
theorem props_total (f : Bool) : ∀ (k : Nat) (r : FRd) (p : Pr), propsLeft r p < k → ∃ q r1, FRd.props f k r p = some (q, r1)
  | 0, r, p, h => by omega
  | k + 1, r, p, h => by
    rw [FRd.props]
    by_cases c1 : r.well = false
    · rw [if_pos c1]; exact ⟨_, _, rfl⟩
    rw [if_neg c1]
    have hw : r.well = true := by simpa using c1
    by_cases c2 : p.anchor = [] ∧ r.next [38] = true
    · rw [if_pos c2]
      refine props_total f k _ _ ?_
      unfold propsLeft at h ⊢
      rw [hw, if_pos rfl, if_pos c2.1] at h
      by_cases hx : wordL (r.s.drop 1) lettersBs = []
      · rw [after_ill _ f (name_ill (r.dropS 1) hx), if_neg (by decide)]; omega
      · dsimp only
        rw [if_neg hx]
        split <;> omega
    rw [if_neg c2]
    by_cases c3 : p.tag = 0 ∧ r.next [33] = true
    · rw [if_pos c3]
      refine props_total f k _ _ ?_
      unfold propsLeft at h ⊢
      rw [hw, if_pos rfl, if_pos c3.1] at h
      by_cases hx : r.tag.1 = 0
      · rw [after_ill _ f (tag_zero r hx), if_neg (by decide)]; omega
      · dsimp only
        rw [if_neg hx]
        split <;> omega
    · rw [if_neg c3]; exact ⟨_, _, rfl⟩
theorem partsL_ends (v : FRd → Option (List T × FRd)) (e : UInt8) (m : Nat) (r : FRd) (l : List T) (h : (r.well && !r.next [e]) = false) : FRd.partsL v e (m + 1) r l = some (l, r) := by
  rw [FRd.partsL, if_neg (by rw [h]; decide)]
theorem next_ne {r : FRd} {cs : Bs} (h : r.next cs = true) : r.s ≠ [] := by
  intro hs
  unfold FRd.next at h
  rw [hs] at h
  simp at h
theorem skip1_less (r : FRd) (h : r.s ≠ []) : (r.skip 1).s.length < r.s.length := by
  have h1 := trimL_le (r.s.drop 1) [32]
  rw [List.length_drop] at h1
  have := List.length_pos_iff.2 h
  show (trimL (r.s.drop 1) [32]).length < _
  omega
theorem partsL_total (v : FRd → Option (List T × FRd)) (e : UInt8) (N : Nat) (hv : ∀ r, r.s.length ≤ N → ∃ ks r1, v r = some (ks, r1) ∧ r.Sub r1) : ∀ (m : Nat) (r : FRd) (l : List T), r.s.length ≤ N → r.s.length + 1 < m → ∃ l1 r1, FRd.partsL v e m r l = some (l1, r1)
  | 0, r, l, _, h => by omega
  | m + 1, r, l, hN, h => by
    by_cases c : (r.well && !r.next [e]) = true
    · rw [FRd.partsL, if_pos c]
      obtain ⟨ks, r1, hx, hs⟩ := hv r hN
      rw [hx]
      simp only []
      have hlen : (r1.skip 0).s.length ≤ r.s.length := Nat.le_trans (FRd.sub_skip r1 0).2 hs.2
      obtain ⟨m', rfl⟩ : ∃ m', m = m' + 1 := ⟨m - 1, by omega⟩
      by_cases c44 : (r1.skip 0).next [44] = true
      · rw [if_pos c44]
        have := skip1_less (r1.skip 0) (next_ne c44)
        exact partsL_total v e N hv (m' + 1) _ _ (by omega) (by omega)
      · rw [if_neg c44]
        by_cases ce : (r1.skip 0).next [e] = true
        · rw [if_pos ce, partsL_ends v e m' _ _ (by rw [ce]; simp)]
          exact ⟨_, _, rfl⟩
        · rw [if_neg ce, partsL_ends v e m' _ _ (by rw [stray_is_ill]; rfl)]
          exact ⟨_, _, rfl⟩
    · rw [partsL_ends v e m r l (by simpa using c)]
      exact ⟨_, _, rfl⟩
/-- With a fuel of the text's length and a hundred value answers. -/
theorem value_total : ∀ (k : Nat) (r : FRd) (f : Bool) (deep : Int), 0 ≤ deep → deep ≤ 64 → (r.s.length : Int) + 68 - deep ≤ k → ∃ t r1, FRd.value k r f deep = some (t, r1) ∧ r.Sub r1
  | 0, r, f, deep, h0, h1, h => by omega
  | k + 1, r, f, deep, h0, h1, h => by
    have go : ∃ t r1, FRd.value (k + 1) r f deep = some (t, r1) := by
      obtain ⟨p, rp, hp⟩ := props_total f 4 (r.skip 0) Pr.no (by unfold propsLeft; split <;> simp)
      have hs := (FRd.sub_skip r 0).trans (FRd.sub_props f 4 _ _ _ _ hp)
      rw [FRd.value, hp]
      dsimp only
      split
      · exact ⟨_, _, rfl⟩
      have list : ∀ (part : FRd → Option (List T × FRd)) (kind : Int) (e : UInt8), (deep ≠ 64 → ∀ r, (r.s.length : Int) + 68 - (deep + 1) ≤ k → ∃ ks r1, part r = some (ks, r1) ∧ r.Sub r1) → ∃ t r1, FRd.list part kind e (k + 1) deep p rp = some (t, r1) := fun part kind e hv => by
        unfold FRd.list
        by_cases hd : deep = 64
        · rw [if_pos hd]; exact ⟨_, _, rfl⟩
        rw [if_neg hd]
        unfold FRd.parts
        have hl : (rp.skip 1).s.length ≤ r.s.length := Nat.le_trans (FRd.sub_skip rp 1).2 hs.2
        obtain ⟨l, r2, hx⟩ := partsL_total part e r.s.length (fun r' hr' => hv hd r' (by omega)) (k + 1) (rp.skip 1) [] hl (by omega)
        rw [hx]
        exact ⟨_, _, rfl⟩
      split
      · refine list _ _ _ (fun hd r' hr' => ?_)
        have hi := FRd.sub_itemR r'
        have hi2 := hi.2
        obtain ⟨t, r1, hx, hsub⟩ := value_total k r'.itemR true (deep + 1) (by omega) (by omega) (by omega)
        refine ⟨[t], r1, ?_, hi.trans hsub⟩
        unfold FRd.item
        dsimp only
        rw [hx]
      split
      · refine list _ _ _ (fun hd r' hr' => ?_)
        unfold FRd.entry
        have hk := ((FRd.sub_key r').trans (FRd.sub_skip _ 0))
        split
        · have hk2 := hk.trans (FRd.sub_skip _ 1)
          have hk3 := hk2.2
          obtain ⟨t, r1, hx, hsub⟩ := value_total k ((r'.key.2.skip 0).skip 1) true (deep + 1) (by omega) (by omega) (by omega)
          dsimp only
          rw [hx]
          exact ⟨_, _, rfl, hk2.trans hsub⟩
        · exact ⟨_, _, rfl, hk.trans (FRd.sub_stray _)⟩
      · exact ⟨_, _, rfl⟩
    obtain ⟨t, r1, hx⟩ := go
    exact ⟨t, r1, hx, FRd.sub_value _ _ _ _ _ _ hx⟩
theorem read_total (s : Bs) (f : Bool) (n : Nat) (h : s.length + 68 ≤ n) : ∃ t k y a, readM n s f = some (t, k, y, a) := by
  obtain ⟨t, r, hx, _⟩ := value_total n (FRd.start s) f 0 (by decide) (by decide) (by show ((s.length : Nat) : Int) + 68 - 0 ≤ _; omega)
  unfold readM
  rw [hx]
  dsimp only
  split
  · exact ⟨_, _, _, _, rfl⟩
  · exact ⟨_, _, _, _, rfl⟩
end Go.Proofs.YtbmonfcahhhdeaaGreatDoor

namespace Go.Proofs.YtbmonfcahhhdeaaGreatDoor
open Go.RowKit

abbrev sp (n : Nat) : Bs := List.replicate n 32
theorem trimL_ahead (n : Nat) (s : Bs) : trimL (sp n ++ s) [32] = trimL s [32] := by
  induction n with
  | zero => rfl
  | succ n ih =>
    show trimL (32 :: (sp n ++ s)) [32] = _
    rw [trimL_sp, ih]
theorem trimL_twice (s : Bs) : trimL (trimL s [32]) [32] = trimL s [32] := by
  induction s with
  | nil => rfl
  | cons b t ih =>
    by_cases h : b = 32
    · subst h; rw [trimL_sp, ih]
    · rw [trimL_ne b t h, trimL_ne b t h]
theorem value_skip (k : Nat) (r : FRd) (f : Bool) (deep : Int) : FRd.value (k + 1) (r.skip 0) f deep = FRd.value (k + 1) r f deep := by
  have : (r.skip 0).skip 0 = r.skip 0 := by
    unfold FRd.skip
    simp only [List.drop_zero, trimL_twice]
  rw [FRd.value, FRd.value, this]
theorem start_sh (n : Nat) (s : Bs) : Sh n ((FRd.start s).skip 0) ((FRd.start (sp n ++ s)).skip 0) := by
  refine ⟨?_, ?_, .inl ⟨rfl, rfl, rfl, rfl⟩⟩
  · show (((sp n ++ s).length : Nat) : Int) = ((s.length : Nat) : Int) + n
    rw [List.length_append, List.length_replicate]
    omega
  · show trimL ((sp n ++ s).drop 0) [32] = trimL (s.drop 0) [32]
    rw [List.drop_zero, List.drop_zero, trimL_ahead]
theorem trimR_ahead (n : Nat) (x : Bs) : trimR (sp n ++ x) [32] = if trimR x [32] = [] then [] else sp n ++ trimR x [32] := by
  unfold trimR
  rw [List.reverse_append, List.dropWhile_append]
  have h1 : (sp n).reverse.dropWhile (([32] : Bs).contains ·) = [] := by
    rw [List.reverse_replicate]
    have := trimL_ahead n []
    rw [List.append_nil] at this
    exact this
  cases hx : x.reverse.dropWhile (([32] : Bs).contains ·) with
  | nil => rw [if_pos (show ([] : Bs).isEmpty = true from rfl), h1]; rfl
  | cons a b =>
    rw [if_neg (by simp), if_neg (by simp)]
    simp
/-- What Read makes of blanks ahead. -/
theorem read_ahead (n k : Nat) (s : Bs) (f : Bool) (t : T) (e y a : Int) (h : readM (k + 1) s f = some (t, e, y, a)) :
    (y = 0 ∧ a = 0 ∧ ∃ e', readM (k + 1) (sp n ++ s) f = some (t, e', 0, 0) ∧ 0 ≤ e ∧ e ≤ s.length ∧ 0 ≤ e' ∧ e' ≤ (sp n ++ s).length ∧ trimL ((sp n ++ s).drop e'.toNat) [32] = trimL (s.drop e.toNat) [32]) ∨
    (y ≠ 0 ∧ t = zeroT ∧ e = 0 ∧ readM (k + 1) (sp n ++ s) f = some (zeroT, 0, y, a + n)) := by
  unfold readM at h
  rw [← value_skip] at h
  rcases hv : FRd.value (k + 1) ((FRd.start s).skip 0) f 0 with _ | ⟨t0, r⟩
  · rw [hv] at h; cases h
  rw [hv] at h
  obtain ⟨r', hv', hs⟩ := value_sh n (k + 1) f 0 _ _ t0 r (start_sh n s) hv
  have hv'' : FRd.value (k + 1) (FRd.start (sp n ++ s)) f 0 = some (t0, r') := by rw [← value_skip]; exact hv'
  unfold readM
  rw [hv'']
  dsimp only at h ⊢
  rw [hs.well]
  have hsub := FRd.sub_value _ _ _ _ _ _ hv
  cases hw : r.well with
  | true =>
    rw [hw, if_pos rfl] at h
    simp only [Option.some.injEq, Prod.mk.injEq] at h
    obtain ⟨rfl, rfl, rfl, rfl⟩ := h
    refine .inl ⟨rfl, rfl, _, by rw [if_pos rfl], by omega, ?_, by omega, ?_, ?_⟩
    · have := trimR_le (s.take r.pos.toNat) [32]
      rw [List.length_take] at this
      omega
    · have := trimR_le ((sp n ++ s).take r'.pos.toNat) [32]
      rw [List.length_take] at this
      omega
    · have hp0 : 0 ≤ r.pos := by
        have h1 := hsub.1
        have h2 := hsub.2
        have h3 : ((FRd.start s).skip 0).whole = s.length := rfl
        have h4 := (FRd.sub_skip (FRd.start s) 0).2
        have h5 : (FRd.start s).s = s := rfl
        rw [h5] at h4
        unfold FRd.pos
        omega
      have hpn : r'.pos.toNat = n + r.pos.toNat := by rw [hs.pos]; omega
      have htk : (sp n ++ s).take r'.pos.toNat = sp n ++ s.take r.pos.toNat := by
        rw [hpn, List.take_append]
        simp
      rw [htk, trimR_ahead]
      rw [Int.toNat_natCast, Int.toNat_natCast]
      split
      · rename_i hx
        rw [hx]
        show trimL ((sp n ++ s).drop 0) [32] = trimL (s.drop 0) [32]
        rw [List.drop_zero, List.drop_zero, trimL_ahead]
      · rw [List.length_append, List.length_replicate, List.drop_append]
        simp
  | false =>
    rw [hw, if_neg (by decide)] at h
    simp only [Option.some.injEq, Prod.mk.injEq] at h
    obtain ⟨rfl, rfl, rfl, rfl⟩ := h
    rcases hs.2.2 with ⟨a1, a2, _, _⟩ | ⟨a1, a2, a3⟩
    · unfold FRd.well at hw
      rw [a1, a2] at hw
      cases hw
    · refine .inr ⟨a1, rfl, rfl, ?_⟩
      rw [if_neg (by decide), a2, a3]
end Go.Proofs.YtbmonfcahhhdeaaGreatDoor
