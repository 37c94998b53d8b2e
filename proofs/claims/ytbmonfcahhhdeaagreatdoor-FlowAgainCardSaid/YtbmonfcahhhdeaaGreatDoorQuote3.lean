/- The walks of package quote: may, short; utf.Encode of one sign. The walks of package quote: FormatInt at base 16, hex, put. The walks of package quote: put, Double. -/
import Derived.Test.YtbmonfcahhhdeaaGreatDoorBld
import Derived.Test.YtbmonfcahhhdeaaGreatDoorPlain2
import Derived.Test.YtbmonfcahhhdeaaGreatDoorHex2
import Derived.Lib.BufferKept
import Derived.Deep.RegionWith
set_option linter.unusedVariables false
set_option linter.unusedSimpArgs false
namespace Go.Proofs.YtbmonfcahhhdeaaGreatDoor
open Go.RowKit

/-- quote.may. -/
def qmay (r : Int) : Bool := printable r && !decide (r = 9) && !decide (r = 10) && !decide (r = 13)
set_option maxHeartbeats 1000000 in
theorem quote_may (r : Int) (w : World) :
    Calls Tryz.prog 119 #[.int .i64 r] w fun e w' => e = .returned (.bool (qmay r)) ∧ w' = w := by
  have hP := utf_Printable r
  cases hp : printable r with
  | false =>
    have HR : Hid (qmay r = false) := by show qmay r = false; unfold qmay; rw [hp]; rfl
    rw [hp] at hP
    clear hp
    go_enter Tryz.func119, Tryz.ntmps119
    go_wp2_with fail
    refine (hP _).mono ?_
    rintro e w1 ⟨rfl, rfl⟩
    go_wp2_with fail
    go_ret
    exact ⟨by rw [HR.out]; rfl, rfl⟩
  | true =>
    by_cases h9 : r = 9
    · subst h9
      rw [hp] at hP
      clear hp
      go_enter Tryz.func119, Tryz.ntmps119
      go_wp2_with fail
      refine (hP _).mono ?_
      rintro e w1 ⟨rfl, rfl⟩
      go_wp2_with fail
      go_ret
      exact ⟨rfl, rfl⟩
    by_cases h10 : r = 10
    · subst h10
      rw [hp] at hP
      clear hp
      go_enter Tryz.func119, Tryz.ntmps119
      go_wp2_with fail
      refine (hP _).mono ?_
      rintro e w1 ⟨rfl, rfl⟩
      go_wp2_with fail
      go_ret
      exact ⟨rfl, rfl⟩
    by_cases h13 : r = 13
    · subst h13
      rw [hp] at hP
      clear hp
      go_enter Tryz.func119, Tryz.ntmps119
      go_wp2_with fail
      refine (hP _).mono ?_
      rintro e w1 ⟨rfl, rfl⟩
      go_wp2_with fail
      go_ret
      exact ⟨rfl, rfl⟩
    have HR : Hid (qmay r = true) := by show qmay r = true; unfold qmay; rw [hp]; simp [h9, h10, h13]
    have e9 : (r != 9) = true := by simpa using h9
    have e10 : (r != 10) = true := by simpa using h10
    have e13 : (r != 13) = true := by simpa using h13
    rw [hp] at hP
    clear hp h9 h10 h13
    go_enter Tryz.func119, Tryz.ntmps119
    go_wp2_with fail
    refine (hP _).mono ?_
    rintro e w1 ⟨rfl, rfl⟩
    go_wp2_with fail
    go_ret
    exact ⟨by rw [HR.out]; rfl, rfl⟩

/-- quote.short. -/
def qshort (r : Int) : UInt8 := if r = 34 then 34 else if r = 92 then 92 else if r = 10 then 110 else if r = 9 then 116 else if r = 13 then 114 else if r = 0 then 48 else 0
set_option maxHeartbeats 1000000 in
theorem quote_short (r : Int) (w : World) :
    Calls Tryz.prog 118 #[.int .i64 r] w fun e w' => e = .returned (.int .u8 (qshort r).toNat) ∧ w' = w := by
  by_cases h1 : r = 34
  · subst h1; go_enter Tryz.func118, Tryz.ntmps118; go_wp2_with fail; go_ret; exact ⟨rfl, rfl⟩
  by_cases h2 : r = 92
  · subst h2; go_enter Tryz.func118, Tryz.ntmps118; go_wp2_with fail; go_ret; exact ⟨rfl, rfl⟩
  by_cases h3 : r = 10
  · subst h3; go_enter Tryz.func118, Tryz.ntmps118; go_wp2_with fail; go_ret; exact ⟨rfl, rfl⟩
  by_cases h4 : r = 9
  · subst h4; go_enter Tryz.func118, Tryz.ntmps118; go_wp2_with fail; go_ret; exact ⟨rfl, rfl⟩
  by_cases h5 : r = 13
  · subst h5; go_enter Tryz.func118, Tryz.ntmps118; go_wp2_with fail; go_ret; exact ⟨rfl, rfl⟩
  by_cases h6 : r = 0
  · subst h6; go_enter Tryz.func118, Tryz.ntmps118; go_wp2_with fail; go_ret; exact ⟨rfl, rfl⟩
  have HR : Hid (qshort r = 0) := by show qshort r = 0; unfold qshort; simp [h1, h2, h3, h4, h5, h6]
  have e1 : (r == 34) = false := by simpa using h1
  have e2 : (r == 92) = false := by simpa using h2
  have e3 : (r == 10) = false := by simpa using h3
  have e4 : (r == 9) = false := by simpa using h4
  have e5 : (r == 13) = false := by simpa using h5
  have e6 : (r == 0) = false := by simpa using h6
  clear h1 h2 h3 h4 h5 h6
  go_enter Tryz.func118, Tryz.ntmps118
  go_wp2_with fail
  go_ret
  exact ⟨by rw [HR.out]; rfl, rfl⟩

/-- Is a number a sign's? -/
def sign (n : Int) : Bool := decide (0 ≤ n) && decide (n ≤ 1114111) && Lib.validRune n
set_option maxHeartbeats 2000000 in
theorem utf_Encode_bad (n : Int) (g : Nat) (w : World) (hc : w.cell? ⟨g, 0, none⟩ = some (.int .i64 n)) (hn : sign n = false) :
    Calls Tryz.prog 156 #[.slice (some ⟨g, 0, none⟩) 1 1] w fun e w' => e = .returned (.tuple #[St [], .int .i64 8]) ∧ Below w.heap.size w w' := by
  have hlt := World.block_lt_of_cell? w _ hc
  simp only [] at hlt
  by_cases h1 : n < 0
  · go_enter Tryz.func156, Tryz.ntmps156
    go_wp2_with fail
    refine wp_loop_once ?_
    go_wp2_with fail
    go_ret2
    exact ⟨rfl, (Below.refl _ _).alloc (Nat.le_refl _) _⟩
  by_cases h2 : 1114111 < n
  · go_enter Tryz.func156, Tryz.ntmps156
    go_wp2_with fail
    refine wp_loop_once ?_
    go_wp2_with fail
    go_ret2
    exact ⟨rfl, (Below.refl _ _).alloc (Nat.le_refl _) _⟩
  have hv : Lib.validRune n = false := by
    unfold sign at hn
    simpa [show 0 ≤ n from by omega, show n ≤ 1114111 from by omega] using hn
  have hV := Tryz.utf8_ValidRune n
  rw [hv] at hV
  have b1 : 0 ≤ n := by omega
  have b2 : n ≤ 1114111 := by omega
  clear hv hn h1 h2
  go_enter Tryz.func156, Tryz.ntmps156
  go_wp2_with fail
  refine wp_loop_once ?_
  go_wp2_with fail
  refine (hV _).mono ?_
  rintro e w1 ⟨rfl, rfl⟩
  go_wp2_with fail
  go_ret2
  exact ⟨rfl, (Below.refl _ _).alloc (Nat.le_refl _) _⟩

set_option maxHeartbeats 2000000 in
theorem utf_Encode_ok (n : Int) (g : Nat) (w : World) (hc : w.cell? ⟨g, 0, none⟩ = some (.int .i64 n)) (hn : sign n = true) :
    Calls Tryz.prog 156 #[.slice (some ⟨g, 0, none⟩) 1 1] w fun e w' => e = .returned (.tuple #[St (runeBs n), .int .i64 0]) ∧ Below w.heap.size w w' := by
  have hlt := World.block_lt_of_cell? w _ hc
  simp only [] at hlt
  unfold sign at hn
  simp only [Bool.and_eq_true, decide_eq_true_eq] at hn
  obtain ⟨⟨b1, b2⟩, hv⟩ := hn
  have hV := Tryz.utf8_ValidRune n
  rw [hv] at hV
  have hW := fun w' h => bld_WriteRune bt_builder w.heap.size w.heap.size [] n (by omega) (by omega) w' h (by decide)
  have hS := fun w' h => bld_String bt_builder w.heap.size w.heap.size (runeBs n) w' h
  rw [List.nil_append] at hW
  generalize runeBs n = X at hW hS ⊢
  clear hv
  go_enter Tryz.func156, Tryz.ntmps156
  go_wp2_with fail
  go_loopw [9] (fun v wr => (v = .int .i64 0 ∧ Hid (wr = w.alloc (.cells #[.pointer none, .slice none 0 0] 50))) ∨ (v = .int .i64 1 ∧ Hid (Bld 50 w.heap.size w.heap.size X wr ∧ Below w.heap.size w wr))) (fun v _ => 1 - (intOf v).toNat)
  case atStart => exact .inl ⟨rfl, rfl⟩
  case round =>
    rcases hrel with ⟨rfl, HW⟩ | ⟨rfl, HW⟩
    · have hc1 : wr.cell? ⟨g, 0, none⟩ = some (.int .i64 n) := by rw [HW.out, World.cell?_alloc_lt _ _ _ hlt]; exact hc
      have hB : Bld 50 w.heap.size w.heap.size [] wr := by rw [HW.out]; exact Bld.fresh (Nat.le_refl _) (blk_new _ _)
      have hZ : w.heap.size ≤ wr.heap.size := by rw [HW.out]; simp
      have HB := Lib.hid hB
      clear hB hc
      go_wp2_with fail
      refine (hV _).mono ?_
      rintro e w1 ⟨rfl, rfl⟩
      go_wp2_with fail
      refine (hW _ HB.out hZ).mono ?_
      rintro e w2 ⟨rfl, hb2, hf2⟩
      have HX : Hid (Bld 50 w.heap.size w.heap.size X w2 ∧ Below w.heap.size w w2) := ⟨hb2, ((Below.refl _ _).alloc (Nat.le_refl _) _).trans (by have := hf2.below; rw [HW.out] at this; exact this)⟩
      clear hb2 hf2 HW HB
      go_wp2_with fail
      go_roundw
      case rel => exact .inr ⟨by go_num, HX⟩
      case measure => simp [intOf]
    · go_wp2_with fail
      refine (hS _ HW.out.1 HW.out.2.size).mono ?_
      rintro e w2 ⟨rfl, hb2, hf2⟩
      go_wp2_with fail
      go_ret2
      exact ⟨rfl, HW.out.2.trans hf2.below⟩
end Go.Proofs.YtbmonfcahhhdeaaGreatDoor

namespace Go.Proofs.YtbmonfcahhhdeaaGreatDoor
open Go.RowKit

theorem Bld.own {T : TypeId} {B b : Nat} {l : Bs} {w w' : World} (h : Bld T B b l w) (hb : Below w.heap.size w w') : Bld T B b l w' := by
  have go : ∀ {p}, Lib.BuilderAtF T 5 B b p (Lib.byteCells l) w → Lib.BuilderAtF T 5 B b p (Lib.byteCells l) w' := fun h => by
    have hlt := h.lt
    obtain ⟨hB, v, hv, hown, hne⟩ := h
    exact ⟨hB, v, (hb.block b hlt).trans hv, hown.kept (row := none) ⟨hb.os, hb.tape, hb.output, hb.size, fun k hk _ => hb.block k hk⟩ (Classical.em _), hne⟩
  exact h.elim (fun x => .inl (go x)) (fun x => .inr (go x))
theorem BFr.own {B b : Nat} {w w' w'' : World} (h : BFr B b w w') (hb : Below w'.heap.size w' w'') (hB : B ≤ w.heap.size) : BFr B b w w'' :=
  ⟨h.below.trans (hb.mono (Nat.le_trans hB h.below.size)), Lib.OthersKept.below h.kept hb⟩

/-- What the hexadecimal formatting asks: the table of trailing zeros. -/
theorem Env.tz {G : Nat} {w : World} (h : Env G w) : w.cell? ⟨7, 15, none⟩ = some (.int .u8 4) := h.facts.tz

set_option maxHeartbeats 2000000 in
set_option maxRecDepth 100000 in
theorem formatInt_16 (n : Nat) (h1 : n ≤ 1114111) (G : Nat) (w : World) (he : Env G w) : Calls Tryz.prog 165 #[.int .i64 n, .int .i64 16] w fun e w' => e = .returned (St (hexL n)) ∧ Below w.heap.size w w' := by
  have hF := fmt16_bits n h1 w he.tz
  have hw : IntKind.u64.wrap (n : Int) = n := by rw [IntKind.wrap_u64]; omega
  have hn : ¬ ((n : Int) < 0) := by omega
  generalize hexL n = X at hF ⊢
  go_enter Tryz.func165, Tryz.ntmps165
  go_wp2_with fail
  refine hF.mono ?_
  rintro e w1 ⟨rfl, hb⟩
  go_wp2_with fail
  go_ret
  exact ⟨rfl, hb⟩

set_option maxHeartbeats 2000000 in
theorem strconv_FormatInt_16 (n : Nat) (h1 : n ≤ 1114111) (G : Nat) (w : World) (he : Env G w) : Calls Tryz.prog 145 #[.int .i64 n, .int .i64 16] w fun e w' => e = .returned (St (hexL n)) ∧ Below w.heap.size w w' := by
  have hF := formatInt_16 n h1 G w he
  generalize hexL n = X at hF ⊢
  go_enter Tryz.func145, Tryz.ntmps145
  go_wp2_with fail
  refine hF.mono ?_
  rintro e w1 ⟨rfl, hb⟩
  go_wp2_with fail
  go_ret
  exact ⟨rfl, hb⟩

/-- What hex puts. -/
def qhexBs (letter : UInt8) (n many : Nat) : Bs := 92 :: letter :: (Lib.repeatL [48] (many - (hexL n).length) ++ hexL n)

set_option maxHeartbeats 4000000 in
set_option maxRecDepth 100000 in
theorem quote_hex (letter : UInt8) (n many : Nat) (h1 : n ≤ 1114111) (hm : (hexL n).length ≤ many) (hm8 : many ≤ 8) (G B b : Nat) (l : Bs) (w : World) (he : Env G w) (h : Bld 115 B b l w) (hG : G ≤ B) (hlen : l.length + 20 ≤ 140737488355328) (hBw : B ≤ w.heap.size) :
    Calls Tryz.prog 121 #[.pointer (some ⟨b, 0, none⟩), .int .u8 letter.toNat, .int .i64 n, .int .i64 many] w fun e w' => e = .returned (.tuple #[]) ∧ Bld 115 B b (l ++ qhexBs letter n many) w' ∧ BFr B b w w' := by
  have hF := strconv_FormatInt_16 n h1 G w he
  have hR := fun w' => Tryz.strings_Repeat ⟨#[48]⟩ (many - (hexL n).length) w' (by omega) (by show 1 * _ ≤ _; omega)
  have hRl : (Lib.repeatL [48] (many - (hexL n).length)).length ≤ 8 := by rw [Lib.repeatL_length]; simp; omega
  have hXs : (⟨(hexL n).toArray⟩ : ByteArray).size = (hexL n).length := rfl
  have hB1 := fun w' h hw => bld_WriteByte bt_quote B b l 92 w' h (by omega) hw
  have hB2 := fun w' h hw => bld_WriteByte bt_quote B b (l ++ [92]) letter w' h (by simp; omega) hw
  have hB3 := fun w' h hw => bld_WriteString bt_quote B b (l ++ [92] ++ [letter]) (Lib.repeatL [48] (many - (hexL n).length)) w' h (by simp; omega) hw
  have hB4 := fun w' h hw => bld_WriteString bt_quote B b (l ++ [92] ++ [letter] ++ Lib.repeatL [48] (many - (hexL n).length)) (hexL n) w' h (by simp; omega) hw
  have hQ : l ++ [92] ++ [letter] ++ Lib.repeatL [48] (many - (hexL n).length) ++ hexL n = l ++ qhexBs letter n many := by simp [qhexBs]
  rw [hQ] at hB4
  have hsub : (((many - (hexL n).length : Nat)) : Int) = (many : Int) - ((hexL n).length : Nat) := by omega
  have hr1 : 0 ≤ (many : Int) - ((hexL n).length : Nat) := by omega
  have hr2 : (many : Int) - ((hexL n).length : Nat) ≤ 8 := by omega
  have hwr : IntKind.i64.wrap ((many : Int) - ((hexL n).length : Nat)) = (many : Int) - ((hexL n).length : Nat) := by rw [IntKind.wrap_i64]; omega
  rw [hsub] at hR
  change ∀ w', Calls Tryz.prog _ _ _ fun e w'' => e = .returned (St (Lib.repeatL [48] (many - (hexL n).length))) ∧ _ at hR
  have hBd := Lib.hid h
  generalize qhexBs letter n many = Q at hB4 ⊢
  generalize Lib.repeatL [48] (many - (hexL n).length) = R at hR hB3 hB4
  generalize hexL n = X at hF hR hB4 hXs hr1 hr2 hwr
  clear hQ hRl hsub h
  go_enter Tryz.func121, Tryz.ntmps121
  go_wp2_with fail
  refine hF.mono ?_
  rintro e w1 ⟨rfl, hb1⟩
  go_wp2_with fail
  refine (hB1 _ (hBd.out.own hb1) (Nat.le_trans hBw hb1.size)).mono ?_
  rintro e w2 ⟨rfl, hd2, hf2⟩
  go_wp2_with fail
  refine (hB2 _ hd2 (by have := hf2.below.size; have := hb1.size; omega)).mono ?_
  rintro e w3 ⟨rfl, hd3, hf3⟩
  go_wp2_with fail
  have hz3 : B ≤ w3.heap.size := by have := hf2.below.size; have := hf3.below.size; have := hb1.size; omega
  have hS : ∀ w4, Below w3.drew.heap.size w3.drew w4 → Bld 115 B b (l ++ [92] ++ [letter]) w4 ∧ B ≤ w4.heap.size := fun w4 hb4 => ⟨(hd3.own (Below.drew (Below.refl _ w3))).own hb4, Nat.le_trans hz3 hb4.size⟩
  have HF := Lib.hid (And.intro hb1 (And.intro hf2 hf3))
  clear hd3 hd2 hb1 hf2 hf3
  go_region_with (first | (go_at_call 146; refine (hR _).mono ?_; rintro e w4 ⟨rfl, hb4⟩) | (go_at_call 47; refine (hB3 _ (hS _ hb4).1 (hS _ hb4).2).mono ?_; rintro e w5 ⟨rfl, hd5, hf5⟩))
  go_wp2_with fail
  have hz5 : B ≤ w5.heap.size := Nat.le_trans (hS _ hb4).2 hf5.below.size
  refine (hB4 _ hd5 hz5).mono ?_
  rintro e w6 ⟨rfl, hd6, hf6⟩
  go_wp2_with fail
  go_end0
  obtain ⟨k1, k2, k3⟩ := HF.out
  exact ⟨rfl, hd6, (((((BFr.refl B b w).own k1 hBw).trans k2).trans k3).own ((Below.drew (Below.refl _ w3)).trans (hb4.mono (Nat.le_refl _))) (by have := k1.size; have := k2.below.size; omega)).trans (hf5.trans hf6)⟩

theorem hexL_len : ∀ (k u : Nat), u < 16 ^ (k + 1) → (hexL u).length ≤ k + 1
  | 0, u, h => by rw [hexL_small (by omega)]; simp
  | k + 1, u, h => by
    by_cases hs : u < 16
    · rw [hexL_small hs]; simp
    · rw [hexL_big (by omega), List.length_append]
      have := hexL_len k (u / 16) (by rw [Nat.pow_succ] at h; omega)
      simp; omega

/-- What put puts. -/
def qputBs (n : Nat) : Bs := if qshort n ≠ 0 then [92, qshort n] else if qmay n then runeBs n else if n < 256 then qhexBs 120 n 2 else if n < 65536 then qhexBs 117 n 4 else qhexBs 85 n 8
theorem qhexBs_len (c : UInt8) (n many : Nat) (h : n ≤ 1114111) (hm : many ≤ 8) : (qhexBs c n many).length ≤ 20 := by
  have := hexL_len 5 n (by omega)
  simp [qhexBs, Lib.repeatL_length]; omega
theorem qputBs_len (n : Nat) (h : n ≤ 1114111) : (qputBs n).length ≤ 20 := by
  unfold qputBs
  have := runeBs_len n
  split
  · simp
  split
  · omega
  split
  · exact qhexBs_len _ _ _ h (by omega)
  split
  · exact qhexBs_len _ _ _ h (by omega)
  · exact qhexBs_len _ _ _ h (by omega)

end Go.Proofs.YtbmonfcahhhdeaaGreatDoor

namespace Go.Proofs.YtbmonfcahhhdeaaGreatDoor
open Go.RowKit

set_option maxHeartbeats 4000000 in
set_option maxRecDepth 100000 in
theorem quote_put (n : Nat) (h1 : n ≤ 1114111) (G B b : Nat) (l : Bs) (w : World) (he : Env G w) (h : Bld 115 B b l w) (hG : G ≤ B) (hlen : l.length + 20 ≤ 140737488355328) (hBw : B ≤ w.heap.size) :
    Calls Tryz.prog 87 #[.pointer (some ⟨b, 0, none⟩), .int .i64 n] w fun e w' => e = .returned (.tuple #[]) ∧ Bld 115 B b (l ++ qputBs n) w' ∧ BFr B b w w' := by
  have hS := quote_short n
  have hM := quote_may n
  have HB := Lib.hid h
  clear h
  by_cases hs : qshort n = 0
  · have hsB : (qshort n != 0) = false := by simp [hs]
    rw [hs] at hS
    by_cases hm : qmay n = true
    · have hR : Hid (qputBs n = runeBs n) := by show qputBs n = _; unfold qputBs; rw [if_neg (by simp [hs]), if_pos hm]
      have hW := fun w' h hw => bld_WriteRune bt_quote B b l n (by omega) (by omega) w' h (by omega) hw
      rw [hm] at hM
      rw [hR.out]
      generalize runeBs n = X at hW ⊢
      clear hs hm hR
      go_enter Tryz.func87, Tryz.ntmps87
      go_wp2_with fail
      refine (hS _).mono ?_
      rintro e w1 ⟨rfl, rfl⟩
      go_wp2_with fail
      refine (hM _).mono ?_
      rintro e w1 ⟨rfl, rfl⟩
      go_wp2_with fail
      refine (hW _ HB.out hBw).mono ?_
      rintro e w2 ⟨rfl, hd2, hf2⟩
      go_wp2_with fail
      go_end0
      exact ⟨rfl, hd2, hf2⟩
    · have hmf : qmay n = false := by simpa using hm
      rw [hmf] at hM
      by_cases h2 : n < 256
      · have hR : Hid (qputBs n = qhexBs 120 n 2) := by show qputBs n = _; unfold qputBs; rw [if_neg (by simp [hs]), if_neg hm, if_pos h2]
        have hH := fun w' he h hw => quote_hex 120 n 2 h1 (hexL_len 1 n (by omega)) (by omega) G B b l w' he h hG hlen hw
        have i1 : (n : Int) < 256 := by omega
        rw [hR.out]
        generalize qhexBs 120 n 2 = X at hH ⊢
        clear hs hm hR h2 hmf
        go_enter Tryz.func87, Tryz.ntmps87
        go_wp2_with fail
        refine (hS _).mono ?_
        rintro e w1 ⟨rfl, rfl⟩
        go_wp2_with fail
        refine (hM _).mono ?_
        rintro e w1 ⟨rfl, rfl⟩
        go_wp2_with fail
        refine (hH _ he HB.out hBw).mono ?_
        rintro e w2 ⟨rfl, hd2, hf2⟩
        go_wp2_with fail
        go_end0
        exact ⟨rfl, hd2, hf2⟩
      · by_cases h3 : n < 65536
        · have hR : Hid (qputBs n = qhexBs 117 n 4) := by show qputBs n = _; unfold qputBs; rw [if_neg (by simp [hs]), if_neg hm, if_neg h2, if_pos h3]
          have hH := fun w' he h hw => quote_hex 117 n 4 h1 (hexL_len 3 n (by omega)) (by omega) G B b l w' he h hG hlen hw
          have i1 : ¬ ((n : Int) < 256) := by omega
          have i2 : (n : Int) < 65536 := by omega
          rw [hR.out]
          generalize qhexBs 117 n 4 = X at hH ⊢
          clear hs hm hR h2 hmf h3 h1
          generalize (n : Int) = m at hS hM hH i1 i2 ⊢
          go_enter Tryz.func87, Tryz.ntmps87
          go_wp2_with fail
          refine (hS _).mono ?_
          rintro e w1 ⟨rfl, rfl⟩
          go_wp2_with fail
          refine (hM _).mono ?_
          rintro e w1 ⟨rfl, rfl⟩
          go_wp2_with fail
          refine (hH _ he HB.out hBw).mono ?_
          rintro e w2 ⟨rfl, hd2, hf2⟩
          go_wp2_with fail
          go_end0
          exact ⟨rfl, hd2, hf2⟩
        · have hR : Hid (qputBs n = qhexBs 85 n 8) := by show qputBs n = _; unfold qputBs; rw [if_neg (by simp [hs]), if_neg hm, if_neg h2, if_neg h3]
          have hH := fun w' he h hw => quote_hex 85 n 8 h1 (Nat.le_trans (hexL_len 5 n (by omega)) (by omega)) (by omega) G B b l w' he h hG hlen hw
          have i1 : ¬ ((n : Int) < 256) := by omega
          have i2 : ¬ ((n : Int) < 65536) := by omega
          rw [hR.out]
          generalize qhexBs 85 n 8 = X at hH ⊢
          clear hs hm hR h2 hmf h3 h1
          generalize (n : Int) = m at hS hM hH i1 i2 ⊢
          go_enter Tryz.func87, Tryz.ntmps87
          go_wp2_with fail
          refine (hS _).mono ?_
          rintro e w1 ⟨rfl, rfl⟩
          go_wp2_with fail
          refine (hM _).mono ?_
          rintro e w1 ⟨rfl, rfl⟩
          go_wp2_with fail
          refine (hH _ he HB.out hBw).mono ?_
          rintro e w2 ⟨rfl, hd2, hf2⟩
          go_wp2_with fail
          go_end0
          exact ⟨rfl, hd2, hf2⟩
  · have hR : Hid (l ++ [92] ++ [qshort n] = l ++ qputBs n) := by show _ = l ++ qputBs n; unfold qputBs; rw [if_pos hs]; simp
    have hB1 := fun w' h hw => bld_WriteByte bt_quote B b l 92 w' h (by omega) hw
    have hB2 := fun w' h hw => bld_WriteByte bt_quote B b (l ++ [92]) (qshort n) w' h (by simp; omega) hw
    rw [hR.out] at hB2
    generalize qputBs n = Q at hB2 hR ⊢
    generalize qshort n = c at hS hs hB2 hR
    have hcB : ((c.toNat : Int) != 0) = true := by
      have : c.toNat ≠ 0 := fun h => hs (UInt8.toNat.inj h)
      simp; omega
    clear hs hR
    go_enter Tryz.func87, Tryz.ntmps87
    go_wp2_with fail
    refine (hS _).mono ?_
    rintro e w1 ⟨rfl, rfl⟩
    go_wp2_with fail
    refine (hB1 _ HB.out hBw).mono ?_
    rintro e w2 ⟨rfl, hd2, hf2⟩
    go_wp2_with fail
    refine (hB2 _ hd2 (Nat.le_trans hBw hf2.below.size)).mono ?_
    rintro e w3 ⟨rfl, hd3, hf3⟩
    go_wp2_with fail
    go_end0
    exact ⟨rfl, hd3, hf2.trans hf3⟩
end Go.Proofs.YtbmonfcahhhdeaaGreatDoor
