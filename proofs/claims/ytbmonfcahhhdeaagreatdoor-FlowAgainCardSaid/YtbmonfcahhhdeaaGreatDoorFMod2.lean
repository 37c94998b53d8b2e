/- The model of package flow's reader (props, value, parts), with fuel; how a tree lies in the world. The reader's model: what is left of the text does not grow, and the whole stays. -/
import Derived.Test.YtbmonfcahhhdeaaGreatDoorTree
import Derived.Test.YtbmonfcahhhdeaaGreatDoorFRdD
set_option linter.unusedVariables false
set_option linter.unusedSimpArgs false
namespace Go.Proofs.YtbmonfcahhhdeaaGreatDoor
open Go.RowKit

/-- The properties of a value. -/
structure Pr where
  anchor : Bs
  tag : Int
  tagAt : Int
abbrev Pr.v (p : Pr) : Value := .agg #[St p.anchor, .int .i64 p.tag, .int .i64 p.tagAt]
abbrev Pr.no : Pr := ⟨[], 0, 0⟩

/-- What follows a property. -/

def FRd.after (r : FRd) (f : Bool) : FRd :=
  (if r.s ≠ [] ∧ r.next [32] = false ∧ (f && r.next flows) = false then r.wrong 3 r.pos else r).skip 0
/-- props, with fuel. -/
def FRd.props (f : Bool) : Nat → FRd → Pr → Option (Pr × FRd)
  | 0, _, _ => none
  | n + 1, r, p =>
    if r.well = false then some (p, r)
    else if p.anchor = [] ∧ r.next [38] then FRd.props f n ((r.dropS 1).name.after f) { p with anchor := wordL (r.s.drop 1) lettersBs }
    else if p.tag = 0 ∧ r.next [33] then FRd.props f n (r.tag.2.after f) { p with tag := r.tag.1, tagAt := r.pos }
    else some (p, r)

/-- A scalar's tree. -/
def scalarT (kind : Int) (t a : Bs) : T := .mk kind (if kind = 1 then [] else t) a []
/-- parts' loop, with fuel. -/
def FRd.partsL (part : FRd → Option (List T × FRd)) (e : UInt8) : Nat → FRd → List T → Option (List T × FRd)
  | 0, _, _ => none
  | m + 1, r, l =>
    if (r.well && !r.next [e]) = true then
      match part r with
      | none => none
      | some (ks, r1) => FRd.partsL part e m (if (r1.skip 0).next [44] then (r1.skip 0).skip 1 else if (r1.skip 0).next [e] then r1.skip 0 else (r1.skip 0).stray) (l ++ ks)
    else some (l, r)
def FRd.parts (part : FRd → Option (List T × FRd)) (e : UInt8) (m : Nat) (r : FRd) : Option (List T × FRd) :=
  match FRd.partsL part e m (r.skip 1) [] with
  | none => none
  | some (l, r1) => some (l, if r1.well then r1.dropS 1 else r1)
def FRd.itemR (r : FRd) : FRd := if r.s = [] ∨ r.next [44] then r.stray else r
def FRd.item (value : FRd → Option (T × FRd)) (r : FRd) : Option (List T × FRd) :=
  match value r.itemR with
  | none => none
  | some (t, r1) => some ([t], r1)
/-- Behind a key's text. -/
def FRd.keyR (r : FRd) : FRd := if (r.scalar true).1 = [] ∧ (r.scalar true).2.1 = false then (r.scalar true).2.2.stray else (r.scalar true).2.2
def FRd.key (r : FRd) : Int × FRd := r.keyR.made (r.scalar true).1 (r.scalar true).2.1 0 0
/-- Does a colon stand behind the key, and may what follows it? -/
def FRd.colon (r : FRd) : Bool := r.next [58] && (match r.s with | _ :: b :: _ => (32 :: flows).contains b | _ => true)
def FRd.entry (value : FRd → Option (T × FRd)) (r : FRd) : Option (List T × FRd) :=
  if (r.key.2.skip 0).colon then
    match value ((r.key.2.skip 0).skip 1) with
    | none => none
    | some (t, r1) => some ([scalarT r.key.1 (r.scalar true).1 [], t], r1)
  else some ([], (r.key.2.skip 0).stray)
/-- value of a list, behind its properties. -/
def FRd.list (part : FRd → Option (List T × FRd)) (kind : Int) (e : UInt8) (m : Nat) (deep : Int) (p : Pr) (r : FRd) : Option (T × FRd) :=
  if deep = 64 then some (.mk 0 [] [] [], r.wrong 10 r.pos)
  else match FRd.parts part e m r with
    | none => none
    | some (l, r1) => some (.mk kind [] p.anchor l, if p.tag ≠ 0 ∧ p.tag ≠ kind then r1.wrong 12 p.tagAt else r1)
/-- At a star. -/
def FRd.starR (r : FRd) (p : Pr) : FRd := (if p.anchor = [] ∧ p.tag = 0 ∧ p.tagAt = 0 then r else r.stray).dropS 1
/-- value, with fuel. -/
def FRd.value : Nat → FRd → Bool → Int → Option (T × FRd)
  | 0, _, _, _ => none
  | n + 1, r, f, deep =>
    match FRd.props f 4 (r.skip 0) Pr.no with
    | none => none
    | some (p, r1) =>
      if r1.next [42] then
        some (.mk 7 [] (wordL (r1.starR p).s lettersBs) [], (r1.starR p).name)
      else if r1.next [91] then FRd.list (FRd.item fun r => FRd.value n r true (deep + 1)) 5 93 (n + 1) deep p r1
      else if r1.next [123] then FRd.list (FRd.entry fun r => FRd.value n r true (deep + 1)) 6 125 (n + 1) deep p r1
      else
        let s := r1.scalar f
        let k := s.2.2.made s.1 s.2.1 p.tag p.tagAt
        some (scalarT k.1 s.1 p.anchor, k.2)
end Go.Proofs.YtbmonfcahhhdeaaGreatDoor

namespace Go.Proofs.YtbmonfcahhhdeaaGreatDoor
open Go.RowKit

/-- Behind r: the whole is the same, and no more is left. -/
def FRd.Sub (r r' : FRd) : Prop := r'.whole = r.whole ∧ r'.s.length ≤ r.s.length
theorem FRd.Sub.refl (r : FRd) : r.Sub r := ⟨rfl, Nat.le_refl _⟩
theorem FRd.Sub.trans {a b c : FRd} (h : a.Sub b) (k : b.Sub c) : a.Sub c := ⟨k.1.trans h.1, Nat.le_trans k.2 h.2⟩
theorem FRd.Sub.ok {a b : FRd} (h : a.Sub b) (ok : a.Ok) : b.Ok := ⟨by have := ok.len; have := h.1; have := h.2; omega, by have := ok.hi; have := h.1; omega⟩
theorem FRd.sub_skip (r : FRd) (n : Nat) : r.Sub (r.skip n) := ⟨rfl, by
  have h1 := trimL_le (r.s.drop n) [32]
  rw [List.length_drop] at h1
  show (trimL (r.s.drop n) [32]).length ≤ _
  omega⟩
theorem FRd.sub_dropS (r : FRd) (n : Nat) : r.Sub (r.dropS n) := ⟨rfl, by show (r.s.drop n).length ≤ _; rw [List.length_drop]; omega⟩
theorem FRd.sub_wrong (r : FRd) (e a : Int) : r.Sub (r.wrong e a) := ⟨FRd.wrong_whole _ _ _, by rw [FRd.wrong_s]; exact Nat.le_refl _⟩
theorem FRd.sub_stray (r : FRd) : r.Sub r.stray := ⟨FRd.stray_whole _, by rw [FRd.stray_s]; exact Nat.le_refl _⟩
theorem FRd.sub_cut (r : FRd) (set : Bs) : r.Sub (r.cut set) := ⟨rfl, by have := word_len r.s set; show (cutL r.s set).length ≤ _; omega⟩
theorem FRd.sub_name (r : FRd) : r.Sub r.name := by
  unfold FRd.name
  split
  · exact (FRd.sub_cut r _).trans (FRd.sub_stray _)
  split
  · exact (FRd.sub_cut r _).trans (FRd.sub_wrong _ _ _)
  · exact FRd.sub_cut r _
theorem FRd.sub_tag (r : FRd) : r.Sub r.tag.2 := by
  unfold FRd.tag
  split
  · exact (FRd.sub_dropS r 1).trans (FRd.sub_stray _)
  split
  · exact ((FRd.sub_dropS r 2).trans (FRd.sub_cut _ _)).trans (FRd.sub_stray _)
  split
  · exact ((FRd.sub_dropS r 2).trans (FRd.sub_cut _ _)).trans (FRd.sub_wrong _ _ _)
  · exact (FRd.sub_dropS r 2).trans (FRd.sub_cut _ _)
theorem FRd.sub_wrongAs (r : FRd) (e a : Int) : r.Sub (r.wrongAs e a) := by
  unfold FRd.wrongAs
  split
  · exact FRd.Sub.refl _
  · exact FRd.sub_wrong _ _ _
theorem FRd.sub_scalar (r : FRd) (f : Bool) : r.Sub (r.scalar f).2.2 := by
  unfold FRd.scalar
  split
  · split
    · exact (FRd.sub_wrongAs _ _ _).trans (FRd.sub_dropS _ _)
    · dsimp only
      split
      · exact (FRd.sub_stray _).trans (FRd.sub_dropS _ _)
      · exact FRd.sub_dropS _ _
  · exact FRd.Sub.refl _
theorem FRd.sub_made (r : FRd) (t : Bs) (q : Bool) (tag tagAt : Int) : r.Sub (r.made t q tag tagAt).2 := by
  unfold FRd.made
  split
  · exact FRd.Sub.refl _
  split
  · exact FRd.sub_wrong _ _ _
  split
  · exact FRd.Sub.refl _
  · exact FRd.Sub.refl _
theorem FRd.sub_after (r : FRd) (f : Bool) : r.Sub (r.after f) := by
  unfold FRd.after
  split
  · exact (FRd.sub_wrong _ _ _).trans (FRd.sub_skip _ _)
  · exact FRd.sub_skip _ _
theorem FRd.sub_props (f : Bool) : ∀ (n : Nat) (r : FRd) (p : Pr) (p' : Pr) (r' : FRd), FRd.props f n r p = some (p', r') → r.Sub r'
  | 0, _, _, _, _, h => by simp [FRd.props] at h
  | n + 1, r, p, p', r', h => by
    unfold FRd.props at h
    split at h
    · simp only [Option.some.injEq, Prod.mk.injEq] at h; rw [← h.2]; exact FRd.Sub.refl _
    split at h
    · exact (((FRd.sub_dropS r 1).trans (FRd.sub_name _)).trans (FRd.sub_after _ f)).trans (FRd.sub_props f n _ _ _ _ h)
    split at h
    · exact ((FRd.sub_tag r).trans (FRd.sub_after _ f)).trans (FRd.sub_props f n _ _ _ _ h)
    · simp only [Option.some.injEq, Prod.mk.injEq] at h; rw [← h.2]; exact FRd.Sub.refl _
theorem FRd.sub_itemR (r : FRd) : r.Sub r.itemR := by
  unfold FRd.itemR
  split
  · exact FRd.sub_stray _
  · exact FRd.Sub.refl _
theorem FRd.sub_item {value : FRd → Option (T × FRd)} (hv : ∀ r t r', value r = some (t, r') → r.Sub r') (r : FRd) (l : List T) (r' : FRd) (h : FRd.item value r = some (l, r')) : r.Sub r' := by
  unfold FRd.item at h
  split at h
  · cases h
  · rename_i t r1 he
    simp only [Option.some.injEq, Prod.mk.injEq] at h
    rw [← h.2]
    exact (FRd.sub_itemR r).trans (hv _ _ _ he)
theorem FRd.sub_keyR (r : FRd) : r.Sub r.keyR := by
  unfold FRd.keyR
  split
  · exact (FRd.sub_scalar r true).trans (FRd.sub_stray _)
  · exact FRd.sub_scalar r true
theorem FRd.sub_key (r : FRd) : r.Sub r.key.2 := (FRd.sub_keyR r).trans (FRd.sub_made _ _ _ _ _)
theorem FRd.sub_entry {value : FRd → Option (T × FRd)} (hv : ∀ r t r', value r = some (t, r') → r.Sub r') (r : FRd) (l : List T) (r' : FRd) (h : FRd.entry value r = some (l, r')) : r.Sub r' := by
  unfold FRd.entry at h
  split at h
  · split at h
    · cases h
    · rename_i t r1 he
      simp only [Option.some.injEq, Prod.mk.injEq] at h
      rw [← h.2]
      exact (((FRd.sub_key r).trans (FRd.sub_skip _ 0)).trans (FRd.sub_skip _ 1)).trans (hv _ _ _ he)
  · simp only [Option.some.injEq, Prod.mk.injEq] at h
    rw [← h.2]
    exact ((FRd.sub_key r).trans (FRd.sub_skip _ 0)).trans (FRd.sub_stray _)
theorem FRd.sub_partsL {part : FRd → Option (List T × FRd)} (hv : ∀ r t r', part r = some (t, r') → r.Sub r') (e : UInt8) : ∀ (m : Nat) (r : FRd) (l : List T) (l' : List T) (r' : FRd), FRd.partsL part e m r l = some (l', r') → r.Sub r'
  | 0, _, _, _, _, h => by simp [FRd.partsL] at h
  | m + 1, r, l, l', r', h => by
    unfold FRd.partsL at h
    split at h
    · split at h
      · cases h
      · rename_i ks r1 he
        refine ((hv _ _ _ he).trans (FRd.sub_skip r1 0)).trans ?_
        refine FRd.Sub.trans ?_ (FRd.sub_partsL hv e m _ _ _ _ h)
        split
        · exact FRd.sub_skip _ _
        split
        · exact FRd.Sub.refl _
        · exact FRd.sub_stray _
    · simp only [Option.some.injEq, Prod.mk.injEq] at h; rw [← h.2]; exact FRd.Sub.refl _
theorem FRd.sub_parts {part : FRd → Option (List T × FRd)} (hv : ∀ r t r', part r = some (t, r') → r.Sub r') (e : UInt8) (m : Nat) (r : FRd) (l' : List T) (r' : FRd) (h : FRd.parts part e m r = some (l', r')) : r.Sub r' := by
  unfold FRd.parts at h
  split at h
  · cases h
  · rename_i l r1 he
    simp only [Option.some.injEq, Prod.mk.injEq] at h
    rw [← h.2]
    refine ((FRd.sub_skip r 1).trans (FRd.sub_partsL hv e m _ _ _ _ he)).trans ?_
    split
    · exact FRd.sub_dropS _ _
    · exact FRd.Sub.refl _
theorem FRd.sub_list {part : FRd → Option (List T × FRd)} (hv : ∀ r t r', part r = some (t, r') → r.Sub r') (kind : Int) (e : UInt8) (m : Nat) (deep : Int) (p : Pr) (r : FRd) (t : T) (r' : FRd) (h : FRd.list part kind e m deep p r = some (t, r')) : r.Sub r' := by
  unfold FRd.list at h
  split at h
  · simp only [Option.some.injEq, Prod.mk.injEq] at h
    rw [← h.2]
    exact FRd.sub_wrong _ _ _
  · split at h
    · cases h
    · rename_i l r1 he
      simp only [Option.some.injEq, Prod.mk.injEq] at h
      rw [← h.2]
      refine (FRd.sub_parts hv e m _ _ _ he).trans ?_
      split
      · exact FRd.sub_wrong _ _ _
      · exact FRd.Sub.refl _
theorem FRd.sub_value : ∀ (n : Nat) (r : FRd) (f : Bool) (deep : Int) (t : T) (r' : FRd), FRd.value n r f deep = some (t, r') → r.Sub r'
  | 0, _, _, _, _, _, h => by simp [FRd.value] at h
  | n + 1, r, f, deep, t, r', h => by
    have ih : ∀ r t r', FRd.value n r true (deep + 1) = some (t, r') → r.Sub r' := fun r t r' h => FRd.sub_value n r true (deep + 1) t r' h
    unfold FRd.value at h
    split at h
    · cases h
    · rename_i p r1 he
      have h0 := (FRd.sub_skip r 0).trans (FRd.sub_props f 4 _ _ _ _ he)
      split at h
      · simp only [Option.some.injEq, Prod.mk.injEq] at h
        rw [← h.2]
        refine h0.trans (FRd.Sub.trans ?_ (FRd.sub_name _))
        unfold FRd.starR
        refine FRd.Sub.trans ?_ (FRd.sub_dropS _ 1)
        split
        · exact FRd.Sub.refl _
        · exact FRd.sub_stray _
      split at h
      · exact h0.trans (FRd.sub_list (fun r t r' h => FRd.sub_item ih r t r' h) _ _ _ _ _ _ _ _ h)
      split at h
      · exact h0.trans (FRd.sub_list (fun r t r' h => FRd.sub_entry ih r t r' h) _ _ _ _ _ _ _ _ h)
      · simp only [Option.some.injEq, Prod.mk.injEq] at h
        rw [← h.2]
        exact (h0.trans (FRd.sub_scalar _ _)).trans (FRd.sub_made _ _ _ _ _)
end Go.Proofs.YtbmonfcahhhdeaaGreatDoor
