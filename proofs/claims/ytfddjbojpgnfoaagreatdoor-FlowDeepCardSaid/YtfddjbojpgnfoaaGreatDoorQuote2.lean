/- The walks of package quote: FormatInt at base 16, hex, put. -/
import Derived.Test.YtfddjbojpgnfoaaGreatDoorQuote1
import Derived.Test.YtfddjbojpgnfoaaGreatDoorHex2
import Derived.Lib.BufferKept
import Derived.Deep.RegionWith
set_option linter.unusedVariables false
set_option linter.unusedSimpArgs false
namespace Go.Proofs.YtfddjbojpgnfoaaGreatDoor
open Go.RowKit

theorem Bld.own {T : TypeId} {B b : Nat} {l : Bs} {w w' : World} (h : Bld T B b l w) (hb : Below w.heap.size w w') : Bld T B b l w' := by
  have go : ∀ {p}, Lib.BuilderAtF T 5 B b p (Lib.byteCells l) w → Lib.BuilderAtF T 5 B b p (Lib.byteCells l) w' := fun h => by
    have hlt := h.lt
    obtain ⟨hB, v, hv, hown, hne⟩ := h
    exact ⟨hB, v, (hb.block b hlt).trans hv, hown.kept (row := none) ⟨hb.os, hb.tape, hb.output, hb.size, fun k hk _ => hb.block k hk⟩ (Classical.em _), hne⟩
  exact h.elim (fun x => .inl (go x)) (fun x => .inr (go x))
theorem BFr.own {B b : Nat} {w w' w'' : World} (h : BFr B b w w') (hb : Below w'.heap.size w' w'') (hB : B ≤ w.heap.size) : BFr B b w w'' :=
  ⟨h.below.trans (hb.mono (Nat.le_trans hB h.below.size)), Lib.OthersKept.below h.kept hb⟩

/-- What the hexadecimal formatting asks: the table of trailing zeros. -/
theorem Env.tz {G : Nat} {w : World} (h : Env G w) : w.cell? ⟨7, 15, none⟩ = some (.int .u8 4) := h.facts.tz

set_option maxHeartbeats 2000000 in
set_option maxRecDepth 100000 in
theorem formatInt_16 (n : Nat) (h1 : n ≤ 1114111) (G : Nat) (w : World) (he : Env G w) : Calls Tryz.prog 106 #[.int .i64 n, .int .i64 16] w fun e w' => e = .returned (St (hexL n)) ∧ Below w.heap.size w w' := by
  have hF := fmt16_bits n h1 w he.tz
  have hw : IntKind.u64.wrap (n : Int) = n := by rw [IntKind.wrap_u64]; omega
  have hn : ¬ ((n : Int) < 0) := by omega
  generalize hexL n = X at hF ⊢
  go_enter Tryz.func106, Tryz.ntmps106
  go_wp2_with fail
  refine hF.mono ?_
  rintro e w1 ⟨rfl, hb⟩
  go_wp2_with fail
  go_ret
  exact ⟨rfl, hb⟩

set_option maxHeartbeats 2000000 in
theorem strconv_FormatInt_16 (n : Nat) (h1 : n ≤ 1114111) (G : Nat) (w : World) (he : Env G w) : Calls Tryz.prog 96 #[.int .i64 n, .int .i64 16] w fun e w' => e = .returned (St (hexL n)) ∧ Below w.heap.size w w' := by
  have hF := formatInt_16 n h1 G w he
  generalize hexL n = X at hF ⊢
  go_enter Tryz.func96, Tryz.ntmps96
  go_wp2_with fail
  refine hF.mono ?_
  rintro e w1 ⟨rfl, hb⟩
  go_wp2_with fail
  go_ret
  exact ⟨rfl, hb⟩

/-- What hex puts. -/
def qhexBs (letter : UInt8) (n many : Nat) : Bs := 92 :: letter :: (Lib.repeatL [48] (many - (hexL n).length) ++ hexL n)

set_option maxHeartbeats 4000000 in
set_option maxRecDepth 100000 in
theorem quote_hex (letter : UInt8) (n many : Nat) (h1 : n ≤ 1114111) (hm : (hexL n).length ≤ many) (hm8 : many ≤ 8) (G B b : Nat) (l : Bs) (w : World) (he : Env G w) (h : Bld 107 B b l w) (hG : G ≤ B) (hlen : l.length + 20 ≤ 140737488355328) (hBw : B ≤ w.heap.size) :
    Calls Tryz.prog 87 #[.pointer (some ⟨b, 0, none⟩), .int .u8 letter.toNat, .int .i64 n, .int .i64 many] w fun e w' => e = .returned (.tuple #[]) ∧ Bld 107 B b (l ++ qhexBs letter n many) w' ∧ BFr B b w w' := by
  have hF := strconv_FormatInt_16 n h1 G w he
  have hR := fun w' => Tryz.strings_Repeat ⟨#[48]⟩ (many - (hexL n).length) w' (by omega) (by show 1 * _ ≤ _; omega)
  have hRl : (Lib.repeatL [48] (many - (hexL n).length)).length ≤ 8 := by rw [Lib.repeatL_length]; simp; omega
  have hXs : (⟨(hexL n).toArray⟩ : ByteArray).size = (hexL n).length := rfl
  have hB1 := fun w' h hw => bld_WriteByte bt_quote B b l 92 w' h (by omega) hw
  have hB2 := fun w' h hw => bld_WriteByte bt_quote B b (l ++ [92]) letter w' h (by simp; omega) hw
  have hB3 := fun w' h hw => bld_WriteString bt_quote B b (l ++ [92] ++ [letter]) (Lib.repeatL [48] (many - (hexL n).length)) w' h (by simp; omega) hw
  have hB4 := fun w' h hw => bld_WriteString bt_quote B b (l ++ [92] ++ [letter] ++ Lib.repeatL [48] (many - (hexL n).length)) (hexL n) w' h (by simp; omega) hw
  have hQ : l ++ [92] ++ [letter] ++ Lib.repeatL [48] (many - (hexL n).length) ++ hexL n = l ++ qhexBs letter n many := by simp [qhexBs]
  rw [hQ] at hB4
  have hsub : (((many - (hexL n).length : Nat)) : Int) = (many : Int) - ((hexL n).length : Nat) := by omega
  have hr1 : 0 ≤ (many : Int) - ((hexL n).length : Nat) := by omega
  have hr2 : (many : Int) - ((hexL n).length : Nat) ≤ 8 := by omega
  have hwr : IntKind.i64.wrap ((many : Int) - ((hexL n).length : Nat)) = (many : Int) - ((hexL n).length : Nat) := by rw [IntKind.wrap_i64]; omega
  rw [hsub] at hR
  change ∀ w', Calls Tryz.prog _ _ _ fun e w'' => e = .returned (St (Lib.repeatL [48] (many - (hexL n).length))) ∧ _ at hR
  have hBd := Lib.hid h
  generalize qhexBs letter n many = Q at hB4 ⊢
  generalize Lib.repeatL [48] (many - (hexL n).length) = R at hR hB3 hB4
  generalize hexL n = X at hF hR hB4 hXs hr1 hr2 hwr
  clear hQ hRl hsub h
  go_enter Tryz.func87, Tryz.ntmps87
  go_wp2_with fail
  refine hF.mono ?_
  rintro e w1 ⟨rfl, hb1⟩
  go_wp2_with fail
  refine (hB1 _ (hBd.out.own hb1) (Nat.le_trans hBw hb1.size)).mono ?_
  rintro e w2 ⟨rfl, hd2, hf2⟩
  go_wp2_with fail
  refine (hB2 _ hd2 (by have := hf2.below.size; have := hb1.size; omega)).mono ?_
  rintro e w3 ⟨rfl, hd3, hf3⟩
  go_wp2_with fail
  have hz3 : B ≤ w3.heap.size := by have := hf2.below.size; have := hf3.below.size; have := hb1.size; omega
  have hS : ∀ w4, Below w3.drew.heap.size w3.drew w4 → Bld 107 B b (l ++ [92] ++ [letter]) w4 ∧ B ≤ w4.heap.size := fun w4 hb4 => ⟨(hd3.own (Below.drew (Below.refl _ w3))).own hb4, Nat.le_trans hz3 hb4.size⟩
  have HF := Lib.hid (And.intro hb1 (And.intro hf2 hf3))
  clear hd3 hd2 hb1 hf2 hf3
  go_region_with (first | (go_at_call 97; refine (hR _).mono ?_; rintro e w4 ⟨rfl, hb4⟩) | (go_at_call 23; refine (hB3 _ (hS _ hb4).1 (hS _ hb4).2).mono ?_; rintro e w5 ⟨rfl, hd5, hf5⟩))
  go_wp2_with fail
  have hz5 : B ≤ w5.heap.size := Nat.le_trans (hS _ hb4).2 hf5.below.size
  refine (hB4 _ hd5 hz5).mono ?_
  rintro e w6 ⟨rfl, hd6, hf6⟩
  go_wp2_with fail
  go_end0
  obtain ⟨k1, k2, k3⟩ := HF.out
  exact ⟨rfl, hd6, (((((BFr.refl B b w).own k1 hBw).trans k2).trans k3).own ((Below.drew (Below.refl _ w3)).trans (hb4.mono (Nat.le_refl _))) (by have := k1.size; have := k2.below.size; omega)).trans (hf5.trans hf6)⟩

theorem hexL_len : ∀ (k u : Nat), u < 16 ^ (k + 1) → (hexL u).length ≤ k + 1
  | 0, u, h => by rw [hexL_small (by omega)]; simp
  | k + 1, u, h => by
    by_cases hs : u < 16
    · rw [hexL_small hs]; simp
    · rw [hexL_big (by omega), List.length_append]
      have := hexL_len k (u / 16) (by rw [Nat.pow_succ] at h; omega)
      simp; omega

/-- What put puts. -/
def qputBs (n : Nat) : Bs := if qshort n ≠ 0 then [92, qshort n] else if qmay n then runeBs n else if n < 256 then qhexBs 120 n 2 else if n < 65536 then qhexBs 117 n 4 else qhexBs 85 n 8
theorem qhexBs_len (c : UInt8) (n many : Nat) (h : n ≤ 1114111) (hm : many ≤ 8) : (qhexBs c n many).length ≤ 20 := by
  have := hexL_len 5 n (by omega)
  simp [qhexBs, Lib.repeatL_length]; omega
theorem qputBs_len (n : Nat) (h : n ≤ 1114111) : (qputBs n).length ≤ 20 := by
  unfold qputBs
  have := runeBs_len n
  split
  · simp
  split
  · omega
  split
  · exact qhexBs_len _ _ _ h (by omega)
  split
  · exact qhexBs_len _ _ _ h (by omega)
  · exact qhexBs_len _ _ _ h (by omega)

end Go.Proofs.YtfddjbojpgnfoaaGreatDoor
