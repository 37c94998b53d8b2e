/- The model of flow.Right and of put; what they ask of a tree. -/
import Derived.Test.YtfddjbojpgnfoaaGreatDoorFW2
import Derived.Test.YtfddjbojpgnfoaaGreatDoorTree
set_option linter.unusedVariables false
set_option linter.unusedSimpArgs false
namespace Go.Proofs.YtfddjbojpgnfoaaGreatDoor
open Go.RowKit

/-- A tree's texts and rows are not too long. -/
inductive Fit : List T → Prop
  | nil : Fit []
  | cons (k : Int) (t a : Bs) (kids ts : List T) (h1 : t.length ≤ 4294967296) (h2 : a.length ≤ 4294967296) (h3 : kids.length ≤ 4294967296) (h4 : Fit kids) (h5 : Fit ts) : Fit (.mk k t a kids :: ts)
mutual
/-- right: the answer, and how many trees may still come. -/
def rightT : T → Int → Int → Bool × Int
  | .mk k t a kids, left, deep =>
    if left - 1 < 0 ∨ k < 1 ∨ 7 < k ∨ isTextB k t = false then (false, left - 1)
    else if (a ≠ [] ∨ k = 7) ∧ isName a = false then (false, left - 1)
    else if k ≠ 5 ∧ k ≠ 6 then (kids.isEmpty, left - 1)
    else if deep = 64 ∨ (k = 6 ∧ kids.length % 2 ≠ 0) then (false, left - 1)
    else rightL (decide (k = 6)) kids 0 (left - 1) (deep + 1)
def rightL (m : Bool) : List T → Nat → Int → Int → Bool × Int
  | [], _, left, _ => (true, left)
  | t :: ts, i, left, deep =>
    if m = true ∧ i % 2 = 0 ∧ (isSc t.kind = false ∨ t.anchor ≠ []) then (false, left)
    else if (rightT t left deep).1 then rightL m ts (i + 1) (rightT t left deep).2 deep else (false, (rightT t left deep).2)
end
mutual
/-- put's text. -/
def putT : T → Bs
  | .mk k t a kids =>
    if k = 7 then 42 :: a
    else (if a ≠ [] then 38 :: a ++ [32] else []) ++ (if k = 5 then [91] ++ putL false kids 0 ++ [93] else if k = 6 then [123] ++ putL true kids 0 ++ [125] else scalarS k t true)
def putL (m : Bool) : List T → Nat → Bs
  | [], _ => []
  | t :: ts, i => (if m = true ∧ i % 2 = 1 then [58, 32] else if 0 < i then [44, 32] else []) ++ putT t ++ putL m ts (i + 1)
end
theorem rightT_mk (k : Int) (t a : Bs) (kids : List T) (left deep : Int) : rightT (.mk k t a kids) left deep =
    if left - 1 < 0 ∨ k < 1 ∨ 7 < k ∨ isTextB k t = false then (false, left - 1)
    else if (a ≠ [] ∨ k = 7) ∧ isName a = false then (false, left - 1)
    else if k ≠ 5 ∧ k ≠ 6 then (kids.isEmpty, left - 1)
    else if deep = 64 ∨ (k = 6 ∧ kids.length % 2 ≠ 0) then (false, left - 1)
    else rightL (decide (k = 6)) kids 0 (left - 1) (deep + 1) := by rw [rightT]
theorem rightL_cons (m : Bool) (t : T) (ts : List T) (i : Nat) (left deep : Int) : rightL m (t :: ts) i left deep =
    if m = true ∧ i % 2 = 0 ∧ (isSc t.kind = false ∨ t.anchor ≠ []) then (false, left)
    else if (rightT t left deep).1 then rightL m ts (i + 1) (rightT t left deep).2 deep else (false, (rightT t left deep).2) := by rw [rightL]
theorem putT_mk (k : Int) (t a : Bs) (kids : List T) : putT (.mk k t a kids) =
    if k = 7 then 42 :: a
    else (if a ≠ [] then 38 :: a ++ [32] else []) ++ (if k = 5 then [91] ++ putL false kids 0 ++ [93] else if k = 6 then [123] ++ putL true kids 0 ++ [125] else scalarS k t true) := by rw [putT]
theorem putL_cons (m : Bool) (t : T) (ts : List T) (i : Nat) : putL m (t :: ts) i = (if m = true ∧ i % 2 = 1 then [58, 32] else if 0 < i then [44, 32] else []) ++ putT t ++ putL m ts (i + 1) := by rw [putL]
theorem Fit.drop {l : List T} (h : Fit l) (i : Nat) : Fit (l.drop i) := by
  induction h generalizing i with
  | nil => rw [List.drop_nil]; exact .nil
  | cons k t a kids ts h1 h2 h3 h4 h5 ih1 ih2 =>
    cases i with
    | zero => exact .cons k t a kids ts h1 h2 h3 h4 h5
    | succ i => exact ih2 i
theorem Rep.drop {w : World} {K : Nat → Prop} {l : List T} {xs : List Value} (h : Rep w K l xs) (i : Nat) : Rep w K (l.drop i) (xs.drop (i * 4)) := by
  induction h generalizing i with
  | nil => rw [List.drop_nil, List.drop_nil]; exact .nil
  | cons k t a kids v xs ts ys base ho hv hk hr ih1 ih2 =>
    cases i with
    | zero => exact .cons k t a kids v xs ts ys base ho hv hk hr
    | succ i =>
      have : (i + 1) * 4 = i * 4 + 4 := by omega
      rw [this]
      exact ih2 i
/-- A row's cells. -/
theorem own_cell {w : World} {base n : Nat} {e : TypeId} {size : Nat} {A : Option Addr} {c : Nat} {xs : List Value} (h : w.ownsRow base e size (.slice A n c) n xs) (h0 : 0 < xs.length) :
    ∃ b, A = some ⟨b, 0, none⟩ ∧ ∀ j, j < xs.length → w.cell? ⟨b, j, none⟩ = xs[j]? := by
  rcases h.2 with ⟨h1, h2⟩ | ⟨g, cap, cur, h1, hg, hh, r⟩
  · have := h.1
    rw [h2, Nat.zero_mul] at this
    omega
  · simp only [Value.slice.injEq] at h1
    refine ⟨g, h1.1, fun j hj => ?_⟩
    rw [blk_cell hh, ← r.2.2.2]
    have hj' : j < n * size := by rw [← h.1]; exact hj
    rw [List.getElem?_take_of_lt hj', Array.getElem?_toList]
end Go.Proofs.YtfddjbojpgnfoaaGreatDoor
