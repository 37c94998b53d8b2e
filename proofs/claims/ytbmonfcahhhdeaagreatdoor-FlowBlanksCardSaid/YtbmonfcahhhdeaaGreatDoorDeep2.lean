/- FlowDeep's plain law: what the reader's model makes of lists within one another. FlowDeep's plain law, of Maps within one another. -/
import Derived.Test.YtbmonfcahhhdeaaGreatDoorFMod2
set_option linter.unusedVariables false
set_option linter.unusedSimpArgs false
namespace Go.Proofs.YtbmonfcahhhdeaaGreatDoor
open Go.RowKit

def zeroT : T := .mk 0 [] [] []
def FRd.start (s : Bs) : FRd := ⟨s.length, s, 0, 0⟩
/-- Read, with fuel: the tree, how far it goes, the fault. -/
def readM (n : Nat) (s : Bs) (f : Bool) : Option (T × Int × Int × Int) :=
  match FRd.value n (FRd.start s) f 0 with
  | none => none
  | some (t, r) => if r.well then some (t, (trimR (s.take r.pos.toNat) [32]).length, 0, 0) else some (zeroT, 0, r.why, r.at_)
/-- Whole, with fuel. -/
def wholeM (n : Nat) (s : Bs) : Option (T × Int × Int) :=
  if 65536 < s.length then some (zeroT, 5, 0)
  else match readM n s false with
    | none => none
    | some (t, k, y, a) =>
      if ¬ (y = 0 ∧ a = 0) then some (zeroT, y, a)
      else if trimL (s.drop k.toNat) [32] ≠ [] then some (zeroT, 3, (s.length : Int) - (trimL (s.drop k.toNat) [32]).length)
      else some (t, 0, 0)

theorem trimL_ne (b : UInt8) (l : Bs) (h : b ≠ 32) : trimL (b :: l) [32] = b :: l := by
  unfold trimL
  rw [List.dropWhile_cons_of_neg (by simpa using h)]
theorem trimL_sp (l : Bs) : trimL (32 :: l) [32] = trimL l [32] := by
  unfold trimL
  rw [List.dropWhile_cons_of_pos (by rfl)]
theorem next_mk (W : Int) (b : UInt8) (l cs : Bs) : (FRd.mk W (b :: l) 0 0).next cs = cs.contains b := rfl
theorem skip0_ne (W : Int) (b : UInt8) (l : Bs) (h : b ≠ 32) (y a : Int) : (FRd.mk W (b :: l) y a).skip 0 = FRd.mk W (b :: l) y a := by
  unfold FRd.skip
  simp only [List.drop_zero, trimL_ne b l h]
theorem skip1_ne (W : Int) (c b : UInt8) (l : Bs) (h : b ≠ 32) (y a : Int) : (FRd.mk W (c :: b :: l) y a).skip 1 = FRd.mk W (b :: l) y a := by
  unfold FRd.skip
  simp only [List.drop_succ_cons, List.drop_zero, trimL_ne b l h]
theorem skip1_sp (W : Int) (c b : UInt8) (l : Bs) (h : b ≠ 32) (y a : Int) : (FRd.mk W (c :: 32 :: b :: l) y a).skip 1 = FRd.mk W (b :: l) y a := by
  unfold FRd.skip
  simp only [List.drop_succ_cons, List.drop_zero, trimL_sp, trimL_ne b l h]
theorem drop1_mk (W : Int) (b : UInt8) (l : Bs) (y a : Int) : (FRd.mk W (b :: l) y a).dropS 1 = FRd.mk W l y a := rfl
theorem well_mk (W : Int) (l : Bs) : (FRd.mk W l 0 0).well = true := rfl
theorem props_no (W : Int) (b : UInt8) (l : Bs) (f : Bool) (h1 : b ≠ 38) (h2 : b ≠ 33) : FRd.props f 4 (FRd.mk W (b :: l) 0 0) .no = some (.no, FRd.mk W (b :: l) 0 0) := by
  unfold FRd.props
  have e1 : ([38] : Bs).contains b = false := by simpa using h1
  have e2 : ([33] : Bs).contains b = false := by simpa using h2
  simp only [next_mk, e1, e2, well_mk]
  simp
/-- Behind a fault nothing is taken but a scalar. -/
theorem next_ill {r : FRd} (h : r.well = false) (cs : Bs) : r.next cs = false := by unfold FRd.next; rw [h]; rfl
theorem skip_well (r : FRd) (n : Nat) : (r.skip n).well = r.well := rfl

/-- A value that begins with a bracket. -/
theorem value_open (n : Nat) (W : Int) (l : Bs) (f : Bool) (deep : Int) : FRd.value (n + 1) (FRd.mk W (91 :: l) 0 0) f deep =
    FRd.list (FRd.item fun r => FRd.value n r true (deep + 1)) 5 93 (n + 1) deep .no (FRd.mk W (91 :: l) 0 0) := by
  rw [FRd.value, skip0_ne _ _ _ (by decide), props_no _ _ _ _ (by decide) (by decide)]
  dsimp only
  rw [if_neg (by rw [next_mk]; decide), if_pos (by rw [next_mk]; decide)]
theorem value_brace (n : Nat) (W : Int) (l : Bs) (f : Bool) (deep : Int) : FRd.value (n + 1) (FRd.mk W (123 :: l) 0 0) f deep =
    FRd.list (FRd.entry fun r => FRd.value n r true (deep + 1)) 6 125 (n + 1) deep .no (FRd.mk W (123 :: l) 0 0) := by
  rw [FRd.value, skip0_ne _ _ _ (by decide), props_no _ _ _ _ (by decide) (by decide)]
  dsimp only
  rw [if_neg (by rw [next_mk]; decide), if_neg (by rw [next_mk]; decide), if_pos (by rw [next_mk]; decide)]

def opens : Nat → Bs
  | 0 => []
  | k + 1 => 91 :: opens k
def nest : Nat → T
  | 0 => zeroT
  | 1 => .mk 5 [] [] []
  | k + 2 => .mk 5 [] [] [nest (k + 1)]

theorem deep_list : ∀ (k n : Nat) (W : Int) (Y : Bs) (f : Bool) (deep : Int), k < n → 0 ≤ deep → deep + (k : Int) < 64 →
    FRd.value n (FRd.mk W (opens (k + 1) ++ (List.replicate (k + 1) 93 ++ Y)) 0 0) f deep = some (nest (k + 1), FRd.mk W Y 0 0)
  | 0, n + 1, W, Y, f, deep, hk, h0, hd => by
    show FRd.value (n + 1) (FRd.mk W (91 :: 93 :: Y) 0 0) f deep = _
    rw [value_open, FRd.list, if_neg (by omega), FRd.parts, skip1_ne _ _ _ _ (by decide), FRd.partsL]
    rw [if_neg (by rw [well_mk, next_mk]; decide)]
    rfl
  | k + 1, n + 1, W, Y, f, deep, hk, h0, hd => by
    have ih := deep_list k n W (93 :: Y) true (deep + 1) (by omega) (by omega) (by omega)
    have e : opens (k + 1 + 1) ++ (List.replicate (k + 1 + 1) 93 ++ Y) = 91 :: (opens (k + 1) ++ (List.replicate (k + 1) 93 ++ (93 :: Y))) := by
      show 91 :: (opens (k + 1) ++ (List.replicate (k + 1 + 1) 93 ++ Y)) = _
      rw [List.replicate_succ' (n := k + 1)]
      simp
    rw [e, value_open, FRd.list, if_neg (by omega), FRd.parts]
    have e2 : opens (k + 1) ++ (List.replicate (k + 1) 93 ++ (93 :: Y)) = 91 :: (opens k ++ (List.replicate (k + 1) 93 ++ (93 :: Y))) := rfl
    rw [e2, skip1_ne _ _ _ _ (by decide), FRd.partsL]
    rw [if_pos (by rw [well_mk, next_mk]; decide), FRd.item, FRd.itemR]
    rw [if_neg (by rw [next_mk]; simp), ← e2, ih]
    simp only []
    rw [skip0_ne _ _ _ (by decide)]
    rw [if_neg (by rw [next_mk]; decide), if_pos (by rw [next_mk]; decide)]
    obtain ⟨n', rfl⟩ : ∃ n', n = n' + 1 := ⟨n - 1, by omega⟩
    rw [FRd.partsL]
    rw [if_neg (by rw [well_mk, next_mk]; decide)]
    rfl

theorem wrong_ill {r : FRd} (h : r.well = false) (e a : Int) : r.wrong e a = r := by unfold FRd.wrong; rw [h]; rfl
theorem stray_ill {r : FRd} (h : r.well = false) : r.stray = r := by
  unfold FRd.stray
  rw [wrong_ill h 4, ite_self, wrong_ill h]
/-- What follows a fault, in a list's parts. -/
theorem parts_ill (part : FRd → Option (List T × FRd)) (e : UInt8) (m : Nat) (r : FRd) (h : r.well = false) (l : List T) : FRd.partsL part e (m + 1) r l = some (l, r) := by
  rw [FRd.partsL, h, Bool.false_and, if_neg (by decide)]
theorem deep_over : ∀ (k n : Nat) (W : Int) (Y : Bs) (f : Bool) (deep : Int), k + 1 < n → deep + (k : Int) = 64 →
    ∃ t s, FRd.value n (FRd.mk W (opens (k + 1) ++ Y) 0 0) f deep = some (t, FRd.mk W s 10 (W - ((91 :: Y).length : Nat)))
  | 0, n + 1, W, Y, f, deep, hk, hd => by
    refine ⟨zeroT, 91 :: Y, ?_⟩
    show FRd.value (n + 1) (FRd.mk W (91 :: Y) 0 0) f deep = _
    rw [value_open, FRd.list, if_pos (by omega)]
    rfl
  | k + 1, n + 1, W, Y, f, deep, hk, hd => by
    obtain ⟨t, s, ih⟩ := deep_over k n W Y true (deep + 1) (by omega) (by omega)
    show ∃ t s, FRd.value (n + 1) (FRd.mk W (91 :: 91 :: (opens k ++ Y)) 0 0) f deep = _
    rw [show opens (k + 1) ++ Y = 91 :: (opens k ++ Y) from rfl] at ih
    refine ⟨?_, trimL s [32], ?_⟩
    rotate_left
    rw [value_open, FRd.list, if_neg (by omega), FRd.parts]
    rw [skip1_ne _ _ _ _ (by decide), FRd.partsL]
    rw [if_pos (by rw [well_mk, next_mk]; decide), FRd.item, FRd.itemR]
    rw [if_neg (by rw [next_mk]; simp), ih]
    simp only []
    have hw : (FRd.mk W s 10 (W - ((91 :: Y).length : Nat))).well = false := rfl
    have hw0 : ((FRd.mk W s 10 (W - ((91 :: Y).length : Nat))).skip 0).well = false := hw
    rw [next_ill hw0, next_ill hw0, if_neg (by decide), if_neg (by decide)]
    rw [stray_ill hw0]
    obtain ⟨n', rfl⟩ : ∃ n', n = n' + 1 := ⟨n - 1, by omega⟩
    rw [parts_ill _ _ _ _ hw0]
    rfl
end Go.Proofs.YtbmonfcahhhdeaaGreatDoor

namespace Go.Proofs.YtbmonfcahhhdeaaGreatDoor
open Go.RowKit

def opensM : Nat → Bs
  | 0 => []
  | k + 1 => 123 :: 97 :: 58 :: 32 :: opensM k
def keyA : T := .mk 4 [97] [] []
def nullT : T := .mk 1 [] [] []
def nestM : Nat → T
  | 0 => zeroT
  | 1 => .mk 6 [] [] [keyA, nullT]
  | k + 2 => .mk 6 [] [] [keyA, nestM (k + 1)]

theorem pcut_a (X : Bs) : pcut (97 :: 58 :: 32 :: X) true = [97] := by
  have h : pend (97 :: 58 :: 32 :: X) true = 1 := by
    refine pend_at _ _ 1 (by simp) (fun j hj => ?_) ?_
    · obtain rfl : j = 0 := by omega
      rfl
    · rfl
  unfold pcut
  rw [h]
  rfl
theorem pcut_end (X : Bs) : pcut (125 :: X) true = [] := by
  have h : pend (125 :: X) true = 0 := by
    refine pend_at _ _ 0 (by simp) (fun j hj => by omega) ?_
    rfl
  unfold pcut
  rw [h]
  rfl
theorem pis_a : pis [97] true = true := by kernel_rfl
theorem presolve_a : presolve [97] = 4 := by kernel_rfl
theorem presolve_no : presolve [] = 1 := by kernel_rfl
theorem scalar_a (W : Int) (X : Bs) : (FRd.mk W (97 :: 58 :: 32 :: X) 0 0).scalar true = ([97], false, FRd.mk W (58 :: 32 :: X) 0 0) := by
  unfold FRd.scalar
  rw [if_pos (well_mk _ _)]
  rw [if_neg (by rw [next_mk]; decide), pcut_a, pis_a]
  simp
  rfl
theorem entry_a (value : FRd → Option (T × FRd)) (W : Int) (b : UInt8) (X : Bs) (h : b ≠ 32) : FRd.entry value (FRd.mk W (97 :: 58 :: 32 :: b :: X) 0 0) =
    match value (FRd.mk W (b :: X) 0 0) with | none => none | some (t, r1) => some ([keyA, t], r1) := by
  have hk : (FRd.mk W (97 :: 58 :: 32 :: b :: X) 0 0).key = (4, FRd.mk W (58 :: 32 :: b :: X) 0 0) := by
    unfold FRd.key FRd.keyR
    rw [scalar_a]
    simp only []
    rw [if_neg (by simp)]
    unfold FRd.made
    rw [presolve_a]
    simp
  unfold FRd.entry
  rw [hk, scalar_a]
  simp only []
  rw [skip0_ne _ _ _ (by decide), skip1_sp _ _ _ _ h]
  have hc : (FRd.mk W (58 :: 32 :: b :: X) 0 0).colon = true := by
    unfold FRd.colon
    rw [next_mk]
    rfl
  rw [hc, if_pos rfl]
  rfl
theorem value_end (n : Nat) (W : Int) (X : Bs) (deep : Int) : FRd.value (n + 1) (FRd.mk W (125 :: X) 0 0) true deep = some (nullT, FRd.mk W (125 :: X) 0 0) := by
  rw [FRd.value, skip0_ne _ _ _ (by decide), props_no _ _ _ _ (by decide) (by decide)]
  dsimp only
  rw [if_neg (by rw [next_mk]; decide), if_neg (by rw [next_mk]; decide), if_neg (by rw [next_mk]; decide)]
  have hs : (FRd.mk W (125 :: X) 0 0).scalar true = ([], false, FRd.mk W (125 :: X) 0 0) := by
    unfold FRd.scalar
    rw [if_pos (well_mk _ _)]
    rw [if_neg (by rw [next_mk]; decide), pcut_end]
    simp
    rfl
  rw [hs]
  unfold FRd.made
  rw [presolve_no]
  simp
  rfl

theorem opensM_head (k : Nat) (Y : Bs) : ∃ b X, opensM k ++ (List.replicate (k + 1) 125 ++ Y) = b :: X ∧ b ≠ 32 := by
  cases k with
  | zero => exact ⟨125, Y, rfl, by decide⟩
  | succ k => exact ⟨123, _, rfl, by decide⟩

theorem deep_map : ∀ (k n : Nat) (W : Int) (Y : Bs) (f : Bool) (deep : Int), k + 1 < n → 0 ≤ deep → deep + (k : Int) < 64 →
    FRd.value n (FRd.mk W (opensM (k + 1) ++ (List.replicate (k + 1) 125 ++ Y)) 0 0) f deep = some (nestM (k + 1), FRd.mk W Y 0 0)
  | 0, n + 1, W, Y, f, deep, hk, h0, hd => by
    show FRd.value (n + 1) (FRd.mk W (123 :: 97 :: 58 :: 32 :: 125 :: Y) 0 0) f deep = _
    obtain ⟨n', rfl⟩ : ∃ n', n = n' + 1 := ⟨n - 1, by omega⟩
    rw [value_brace, FRd.list, if_neg (by omega), FRd.parts, skip1_ne _ _ _ _ (by decide), FRd.partsL]
    rw [if_pos (by rw [well_mk, next_mk]; decide), entry_a _ _ _ _ (by decide), value_end]
    simp only []
    rw [skip0_ne _ _ _ (by decide)]
    rw [if_neg (by rw [next_mk]; decide), if_pos (by rw [next_mk]; decide), FRd.partsL]
    rw [if_neg (by rw [well_mk, next_mk]; decide)]
    rfl
  | k + 1, n + 1, W, Y, f, deep, hk, h0, hd => by
    have ih := deep_map k n W (125 :: Y) true (deep + 1) (by omega) (by omega) (by omega)
    have e : opensM (k + 1 + 1) ++ (List.replicate (k + 1 + 1) 125 ++ Y) = 123 :: 97 :: 58 :: 32 :: (opensM (k + 1) ++ (List.replicate (k + 1) 125 ++ (125 :: Y))) := by
      show 123 :: 97 :: 58 :: 32 :: (opensM (k + 1) ++ (List.replicate (k + 1 + 1) 125 ++ Y)) = _
      rw [List.replicate_succ' (n := k + 1)]
      simp
    rw [e, value_brace, FRd.list, if_neg (by omega), FRd.parts]
    have e2 : opensM (k + 1) ++ (List.replicate (k + 1) 125 ++ (125 :: Y)) = 123 :: (97 :: 58 :: 32 :: (opensM k ++ (List.replicate (k + 1) 125 ++ (125 :: Y)))) := rfl
    rw [e2, skip1_ne _ _ _ _ (by decide), FRd.partsL]
    rw [if_pos (by rw [well_mk, next_mk]; decide), entry_a _ _ _ _ (by decide), ← e2, ih]
    simp only []
    rw [skip0_ne _ _ _ (by decide)]
    rw [if_neg (by rw [next_mk]; decide), if_pos (by rw [next_mk]; decide)]
    obtain ⟨n', rfl⟩ : ∃ n', n = n' + 1 := ⟨n - 1, by omega⟩
    rw [FRd.partsL]
    rw [if_neg (by rw [well_mk, next_mk]; decide)]
    rfl

theorem deep_overM : ∀ (k n : Nat) (W : Int) (Y : Bs) (f : Bool) (deep : Int), k + 1 < n → deep + (k : Int) = 64 →
    ∃ t s, FRd.value n (FRd.mk W (opensM k ++ 123 :: Y) 0 0) f deep = some (t, FRd.mk W s 10 (W - ((123 :: Y).length : Nat)))
  | 0, n + 1, W, Y, f, deep, hk, hd => by
    refine ⟨zeroT, 123 :: Y, ?_⟩
    show FRd.value (n + 1) (FRd.mk W (123 :: Y) 0 0) f deep = _
    rw [value_brace, FRd.list, if_pos (by omega)]
    rfl
  | k + 1, n + 1, W, Y, f, deep, hk, hd => by
    obtain ⟨t, s, ih⟩ := deep_overM k n W Y true (deep + 1) (by omega) (by omega)
    have hh : ∃ X, opensM k ++ 123 :: Y = 123 :: X := by
      cases k with
      | zero => exact ⟨_, rfl⟩
      | succ k => exact ⟨_, rfl⟩
    obtain ⟨X, hX⟩ := hh
    rw [show opensM (k + 1) ++ 123 :: Y = 123 :: 97 :: 58 :: 32 :: (opensM k ++ 123 :: Y) from rfl]
    rw [hX] at ih ⊢
    refine ⟨?_, trimL s [32], ?_⟩
    rotate_left
    rw [value_brace, FRd.list, if_neg (by omega), FRd.parts]
    rw [skip1_ne _ _ _ _ (by decide), FRd.partsL]
    rw [if_pos (by rw [well_mk, next_mk]; decide), entry_a _ _ _ _ (by decide), ih]
    simp only []
    have hw : (FRd.mk W s 10 (W - ((123 :: Y).length : Nat))).well = false := rfl
    have hw0 : ((FRd.mk W s 10 (W - ((123 :: Y).length : Nat))).skip 0).well = false := hw
    rw [next_ill hw0, next_ill hw0, if_neg (by decide), if_neg (by decide)]
    rw [stray_ill hw0]
    obtain ⟨n', rfl⟩ : ∃ n', n = n' + 1 := ⟨n - 1, by omega⟩
    rw [parts_ill _ _ _ _ hw0]
    rfl
end Go.Proofs.YtbmonfcahhhdeaaGreatDoor
