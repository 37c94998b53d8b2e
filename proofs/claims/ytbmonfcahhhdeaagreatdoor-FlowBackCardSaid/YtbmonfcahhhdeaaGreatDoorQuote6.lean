/- The walk of quote.escape. The walks of quote.escape (whole), one. -/
import Derived.Test.YtbmonfcahhhdeaaGreatDoorQuote4
import Derived.Test.YtbmonfcahhhdeaaGreatDoorHex2
set_option linter.unusedVariables false
set_option linter.unusedSimpArgs false
namespace Go.Proofs.YtbmonfcahhhdeaaGreatDoor
open Go.RowKit

theorem below_step {w b c : World} (h : Below w.heap.size w b) (k : Below b.heap.size b c) : Below w.heap.size w c := below_call h k h.size
def hexSet : Bs := [48, 49, 50, 51, 52, 53, 54, 55, 56, 57, 97, 98, 99, 100, 101, 102, 65, 66, 67, 68, 69, 70]
def qescHex (many : Nat) (t : Bs) : Int × Int × Int :=
  if trim (t.take many) hexSet ≠ [] then (0, 0, 3) else if t.length < many then (0, 0, 4) else if sign (hexN (t.take many)) then (hexN (t.take many), 2 + many, 0) else (0, 0, 3)
/-- quote.escape. -/
def qescape : Bs → Int × Int × Int
  | _ :: c :: t =>
    if c = 34 ∨ c = 92 then (c.toNat, 2, 0) else if c = 110 then (10, 2, 0) else if c = 116 then (9, 2, 0) else if c = 114 then (13, 2, 0) else if c = 48 then (0, 2, 0)
    else if c = 120 then qescHex 2 t else if c = 117 then qescHex 4 t else if c = 85 then qescHex 8 t else (0, 0, 3)
  | _ => (0, 0, 4)

set_option maxRecDepth 100000 in
theorem hexSet_contains : ∀ b : UInt8, hexSet.contains b = isHex b := by
  intro b
  have : ∀ n, n < 256 → hexSet.contains (UInt8.ofNat n) = isHex (UInt8.ofNat n) := by decide
  have := this b.toNat (UInt8.toNat_lt b)
  simpa using this
theorem dropWhile_nil {p : UInt8 → Bool} : ∀ {l : Bs}, l.dropWhile p = [] ↔ l.all p = true
  | [] => by simp
  | x :: l => by
    rw [List.dropWhile_cons, List.all_cons]
    cases hp : p x with
    | true => simpa using dropWhile_nil (l := l)
    | false => simp
theorem trim_hex (l : Bs) : trim l hexSet = [] ↔ l.all isHex = true := by
  have e : (fun x => hexSet.contains x) = isHex := funext hexSet_contains
  unfold trim trimL trimR
  rw [e]
  constructor
  · intro h
    have h1 := dropWhile_nil.1 h
    rw [List.all_reverse] at h1
    -- what is left from the right ends with one that is none
    rcases hd : l.reverse.dropWhile isHex with _ | ⟨x, r⟩
    · have := dropWhile_nil.1 hd; rwa [List.all_reverse] at this
    · rw [hd] at h1
      have h2 : isHex x = true := by simp at h1; exact h1.1
      have h3 : isHex x = false := by
        have := List.head?_dropWhile_not isHex l.reverse
        rw [hd] at this
        simpa using this
      rw [h2] at h3; cases h3
  · intro h
    have h1 : l.reverse.dropWhile isHex = [] := dropWhile_nil.2 (by rwa [List.all_reverse])
    rw [h1]; rfl
theorem hexFrom_lt : ∀ (l : Bs) (n : Nat), l.all isHex = true → hexFrom n l < (n + 1) * 16 ^ l.length
  | [], n, _ => by simp [hexFrom]
  | b :: l, n, h => by
    rw [List.all_cons, Bool.and_eq_true] at h
    have h1 := hexFrom_lt l (n * 16 + hexV b) h.2
    have h2 := hexV_lt h.1
    have : hexFrom n (b :: l) = hexFrom (n * 16 + hexV b) l := rfl
    rw [this, List.length_cons, Nat.pow_succ]
    refine Nat.lt_of_lt_of_le h1 ?_
    rw [Nat.mul_comm (16 ^ l.length) 16, ← Nat.mul_assoc]
    exact Nat.mul_le_mul_right _ (by omega)
theorem hexN_lt (l : Bs) (h : l.all isHex = true) (hl : l.length ≤ 8) : hexN l < 4294967296 := by
  have := hexFrom_lt l 0 h
  have h2 : 16 ^ l.length ≤ 16 ^ 8 := Nat.pow_le_pow_right (by decide) hl
  have h3 : 16 ^ 8 = 4294967296 := by decide
  unfold hexN; omega

theorem slice_hex (a c : UInt8) (t : Bs) (many : Nat) (hm : many ≤ 8) (m4 : Int) (h4 : m4 = 2 + many) (w : World) :
    (Instr.slice 9 (St (a :: c :: t)) (some (.int .i64 2)) (some (.int .i64 (min m4 ((t.length : Int) + 1 + 1)))) none).run Tryz.prog w = .ok (St (t.take many)) w := by
  have hs : ((⟨(a :: c :: t).toArray⟩ : ByteArray).size : Int) = (t.length : Int) + 1 + 1 := by simp [ByteArray.size]
  rw [run_slice_string w 9 _ _ _ _ _ Tryz.underlying9 (by omega) (by omega) (by rw [hs]; omega), extract_bs]
  have e2 : (2 : Int).toNat = 2 := rfl
  have e3 : (List.drop (2 : Int).toNat (a :: c :: t)).take ((min m4 ((t.length : Int) + 1 + 1)).toNat - (2 : Int).toNat) = t.take many := by
    rw [e2, List.drop_succ_cons, List.drop_succ_cons, List.drop_zero]
    by_cases h : t.length ≤ many
    · rw [List.take_of_length_le (by omega), List.take_of_length_le h]
    · congr 1; omega
  rw [e3]

set_option maxHeartbeats 8000000 in
set_option maxRecDepth 100000 in
theorem escape_hex (a c : UInt8) (many : Nat) (t : Bs) (hm : (c = 120 ∧ many = 2) ∨ (c = 117 ∧ many = 4) ∨ (c = 85 ∧ many = 8)) (ht : t.length ≤ 4294967296) (w : World) :
    Calls Tryz.prog 155 #[St (a :: c :: t)] w fun e w' => e = .returned (.tuple #[.int .i64 (qescHex many t).1, .int .i64 (qescHex many t).2.1, .int .i64 (qescHex many t).2.2]) ∧ Below w.heap.size w w' := by
  have hD8 : (t.take many).length ≤ 8 := by have := List.length_take_le many t; omega
  have hT := fun w' => str_Trim (t.take many) hexSet (by omega) (by decide) (by decide) w'
  have hP := fun w' h1 hx => str_Parse16 (t.take many) hD8 h1 hx w'
  have hg : ∀ h, (⟨(a :: c :: t).toArray⟩ : ByteArray)[1]'h = c := fun h => bs_get (a :: c :: t) 1 (by simp) h
  have hsl := fun m4 h4 w' => slice_hex a c t many (by omega) m4 h4 w'
  have hl2 : ¬ ((t.length : Int) + 1 + 1 < 2) := by omega
  by_cases hx : trim (t.take many) hexSet = []
  · by_cases hlt : t.length < many
    · have hDl : ((t.take many).length : Int) < many := by rw [List.length_take]; omega
      have hR : Hid (qescHex many t = (0, 0, 4)) := by show _ = _; unfold qescHex; rw [if_neg (by simp [hx]), if_pos hlt]
      rw [hx] at hT
      rw [hR.out]
      clear hR hx hP ht hD8 hlt
      generalize t.take many = D at hT hsl hDl
      rcases hm with ⟨rfl, rfl⟩ | ⟨rfl, rfl⟩ | ⟨rfl, rfl⟩
      all_goals
        first | have hs := hsl 4 (by decide) | have hs := hsl 6 (by decide) | have hs := hsl 10 (by decide)
        go_enter Tryz.func155, Tryz.ntmps155
        go_wp2_with fail
        refine (hT _).mono ?_
        rintro e w1 ⟨rfl, hb⟩
        go_wp2_with fail
        go_ret3
        exact ⟨rfl, hb⟩
    · have hDl : ((t.take many).length : Int) = many := by rw [List.length_take]; omega
      have hDn : ¬ (((t.take many).length : Int) < many) := by omega
      have hax := (trim_hex _).1 hx
      have hN := hexN_lt _ hax hD8
      have hP1 := fun w' => hP w' (by omega) hax
      have hc1 : IntKind.i64.wrap ((hexN (t.take many) : Nat) : Int) = ((hexN (t.take many) : Nat) : Int) := by rw [IntKind.wrap_i64]; omega
      rw [hx] at hT
      by_cases hsg : sign (hexN (t.take many)) = true
      · have hR : Hid (qescHex many t = (((hexN (t.take many) : Nat) : Int), (2 + many : Int), 0)) := by show _ = _; unfold qescHex; rw [if_neg (by simp [hx]), if_neg hlt, if_pos hsg]
        have hE := fun g w' hc => utf_Encode_ok (hexN (t.take many)) g w' hc hsg
        rw [hR.out]
        clear hR hx hP ht hD8 hlt hax hsg hN
        generalize ((hexN (t.take many) : Nat) : Int) = N at hP1 hE hc1 ⊢
        generalize runeBs N = Y at hE
        generalize t.take many = D at hT hsl hDl hDn hP1
        rcases hm with ⟨rfl, rfl⟩ | ⟨rfl, rfl⟩ | ⟨rfl, rfl⟩
        all_goals
          first | have hs := hsl 4 (by decide) | have hs := hsl 6 (by decide) | have hs := hsl 10 (by decide)
          go_enter Tryz.func155, Tryz.ntmps155
          go_wp2_with fail
          refine (hT _).mono ?_
          rintro e w1 ⟨rfl, hb⟩
          go_wp2_with fail
          refine (hP1 _).mono ?_
          rintro e w2 ⟨rfl, hb2⟩
          go_wp2_with fail
          refine (hE _ _ (by exact blk_cell (blk_new _ _) 0)).mono ?_
          rintro e w3 ⟨rfl, hb3⟩
          go_wp2_with fail
          go_ret3
          exact ⟨rfl, below_step hb (below_step hb2 (below_step ((Below.refl _ _).alloc (Nat.le_refl _) _) hb3))⟩
      · have hsf : sign (hexN (t.take many)) = false := by simpa using hsg
        have hR : Hid (qescHex many t = (0, 0, 3)) := by show _ = _; unfold qescHex; rw [if_neg (by simp [hx]), if_neg hlt, if_neg hsg]
        have hE := fun g w' hc => utf_Encode_bad (hexN (t.take many)) g w' hc hsf
        rw [hR.out]
        clear hR hx hP ht hD8 hlt hax hsg hsf hN
        generalize ((hexN (t.take many) : Nat) : Int) = N at hP1 hE hc1 ⊢
        generalize t.take many = D at hT hsl hDl hDn hP1
        rcases hm with ⟨rfl, rfl⟩ | ⟨rfl, rfl⟩ | ⟨rfl, rfl⟩
        all_goals
          first | have hs := hsl 4 (by decide) | have hs := hsl 6 (by decide) | have hs := hsl 10 (by decide)
          go_enter Tryz.func155, Tryz.ntmps155
          go_wp2_with fail
          refine (hT _).mono ?_
          rintro e w1 ⟨rfl, hb⟩
          go_wp2_with fail
          refine (hP1 _).mono ?_
          rintro e w2 ⟨rfl, hb2⟩
          go_wp2_with fail
          refine (hE _ _ (by exact blk_cell (blk_new _ _) 0)).mono ?_
          rintro e w3 ⟨rfl, hb3⟩
          go_wp2_with fail
          go_ret3
          exact ⟨rfl, below_step hb (below_step hb2 (below_step ((Below.refl _ _).alloc (Nat.le_refl _) _) hb3))⟩
  · have hR : Hid (qescHex many t = (0, 0, 3)) := by show _ = _; unfold qescHex; rw [if_pos hx]
    rw [hR.out]
    clear hR hP ht hD8
    generalize t.take many = D at hT hsl hx
    generalize trim D hexSet = X at hT hx
    obtain ⟨x, X', rfl⟩ := List.exists_cons_of_ne_nil hx
    clear hx
    rcases hm with ⟨rfl, rfl⟩ | ⟨rfl, rfl⟩ | ⟨rfl, rfl⟩
    all_goals
      first | have hs := hsl 4 (by decide) | have hs := hsl 6 (by decide) | have hs := hsl 10 (by decide)
      go_enter Tryz.func155, Tryz.ntmps155
      go_wp2_with fail
      refine (hT _).mono ?_
      rintro e w1 ⟨rfl, hb⟩
      go_wp2_with fail
      go_ret3
      exact ⟨rfl, hb⟩
end Go.Proofs.YtbmonfcahhhdeaaGreatDoor

namespace Go.Proofs.YtbmonfcahhhdeaaGreatDoor
open Go.RowKit

set_option maxHeartbeats 8000000 in
set_option maxRecDepth 100000 in
theorem quote_escape (l : Bs) (hl : l.length ≤ 4294967296) (w : World) :
    Calls Tryz.prog 155 #[St l] w fun e w' => e = .returned (.tuple #[.int .i64 (qescape l).1, .int .i64 (qescape l).2.1, .int .i64 (qescape l).2.2]) ∧ Below w.heap.size w w' := by
  rcases l with _ | ⟨a, _ | ⟨c, t⟩⟩
  · clear hl
    go_enter Tryz.func155, Tryz.ntmps155; go_wp2_with fail; go_ret3; exact ⟨rfl, Below.refl _ _⟩
  · clear hl
    go_enter Tryz.func155, Tryz.ntmps155; go_wp2_with fail; go_ret3; exact ⟨rfl, Below.refl _ _⟩
  have hg : ∀ h, (⟨(a :: c :: t).toArray⟩ : ByteArray)[1]'h = c := fun h => bs_get (a :: c :: t) 1 (by simp) h
  have hl2 : ¬ ((t.length : Int) + 1 + 1 < 2) := by omega
  have ht : t.length ≤ 4294967296 := by simp at hl; omega
  by_cases h1 : c = 120
  · subst h1; exact escape_hex a 120 2 t (.inl ⟨rfl, rfl⟩) ht w
  by_cases h2 : c = 117
  · subst h2; exact escape_hex a 117 4 t (.inr (.inl ⟨rfl, rfl⟩)) ht w
  by_cases h3 : c = 85
  · subst h3; exact escape_hex a 85 8 t (.inr (.inr ⟨rfl, rfl⟩)) ht w
  clear hl ht
  by_cases h4 : c = 34
  · subst h4; go_enter Tryz.func155, Tryz.ntmps155; go_wp2_with fail; go_ret3; exact ⟨rfl, Below.refl _ _⟩
  by_cases h5 : c = 92
  · subst h5; go_enter Tryz.func155, Tryz.ntmps155; go_wp2_with fail; go_ret3; exact ⟨rfl, Below.refl _ _⟩
  by_cases h6 : c = 110
  · subst h6; go_enter Tryz.func155, Tryz.ntmps155; go_wp2_with fail; go_ret3; exact ⟨rfl, Below.refl _ _⟩
  by_cases h7 : c = 116
  · subst h7; go_enter Tryz.func155, Tryz.ntmps155; go_wp2_with fail; go_ret3; exact ⟨rfl, Below.refl _ _⟩
  by_cases h8 : c = 114
  · subst h8; go_enter Tryz.func155, Tryz.ntmps155; go_wp2_with fail; go_ret3; exact ⟨rfl, Below.refl _ _⟩
  by_cases h9 : c = 48
  · subst h9; go_enter Tryz.func155, Tryz.ntmps155; go_wp2_with fail; go_ret3; exact ⟨rfl, Below.refl _ _⟩
  have hR : Hid (qescape (a :: c :: t) = (0, 0, 3)) := by show _ = _; simp [qescape, h1, h2, h3, h4, h5, h6, h7, h8, h9]
  have e1 : ((c.toNat : Int) == 120) = false := ne_u8 (n := 120) (by decide) h1
  have e2 : ((c.toNat : Int) == 117) = false := ne_u8 (n := 117) (by decide) h2
  have e3 : ((c.toNat : Int) == 85) = false := ne_u8 (n := 85) (by decide) h3
  have e4 : ((c.toNat : Int) == 34) = false := ne_u8 (n := 34) (by decide) h4
  have e5 : ((c.toNat : Int) == 92) = false := ne_u8 (n := 92) (by decide) h5
  have e6 : ((c.toNat : Int) == 110) = false := ne_u8 (n := 110) (by decide) h6
  have e7 : ((c.toNat : Int) == 116) = false := ne_u8 (n := 116) (by decide) h7
  have e8 : ((c.toNat : Int) == 114) = false := ne_u8 (n := 114) (by decide) h8
  have e9 : ((c.toNat : Int) == 48) = false := ne_u8 (n := 48) (by decide) h9
  rw [hR.out]
  clear h1 h2 h3 h4 h5 h6 h7 h8 h9 hR
  go_enter Tryz.func155, Tryz.ntmps155; go_wp2_with fail; go_ret3; exact ⟨rfl, Below.refl _ _⟩
end Go.Proofs.YtbmonfcahhhdeaaGreatDoor
