/- What is read fits; Whole's contract in one; FlowBlanks' plain law. Where a fault stands: within the text, or at most 32 behind. -/
import Derived.Test.YtbmonfcahhhdeaaGreatDoorBlank8
import Derived.Test.YtbmonfcahhhdeaaGreatDoorFRdR
import Derived.Test.YtbmonfcahhhdeaaGreatDoorFW3
set_option linter.unusedVariables false
set_option linter.unusedSimpArgs false
namespace Go.Proofs.YtbmonfcahhhdeaaGreatDoor
open Go.RowKit

theorem Fit.append {a b : List T} (h : Fit a) (k : Fit b) : Fit (a ++ b) := by
  induction h with
  | nil => exact k
  | cons k t a kids ts h1 h2 h3 h4 h5 _ ih => exact .cons k t a kids _ h1 h2 h3 h4 ih
theorem fit_scalar (kind : Int) (t a : Bs) (ht : t.length ≤ 4294967296) (ha : a.length ≤ 4294967296) : Fit [scalarT kind t a] := by
  unfold scalarT
  refine .cons _ _ _ _ _ ?_ ha (by simp) .nil .nil
  split
  · simp
  · exact ht
theorem scalar_text (r : FRd) (f : Bool) : (r.scalar f).1.length ≤ 4 * r.s.length := by
  unfold FRd.scalar
  split
  · split
    · exact qread_len _
    · have := pcut_le r.s f
      dsimp only
      omega
  · simp
theorem props_anchor (f : Bool) (N : Nat) : ∀ (k : Nat) (r : FRd) (p q : Pr) (r1 : FRd), r.s.length ≤ N → p.anchor.length ≤ N → FRd.props f k r p = some (q, r1) → q.anchor.length ≤ N
  | 0, r, p, q, r1, _, _, h => by simp [FRd.props] at h
  | k + 1, r, p, q, r1, h0, h1, h => by
    rw [FRd.props] at h
    split at h
    · simp only [Option.some.injEq, Prod.mk.injEq] at h; rw [← h.1]; exact h1
    split at h
    · have h2 := (((FRd.sub_dropS r 1).trans (FRd.sub_name _)).trans (FRd.sub_after _ f)).2
      refine props_anchor f N k _ _ _ _ (by omega) ?_ h
      have h3 := word_len (r.s.drop 1) lettersBs
      rw [List.length_drop] at h3
      dsimp only
      omega
    split at h
    · have h2 := ((FRd.sub_tag r).trans (FRd.sub_after _ f)).2
      exact props_anchor f N k _ ⟨p.anchor, r.tag.1, r.pos⟩ _ _ (by omega) h1 h
    · simp only [Option.some.injEq, Prod.mk.injEq] at h; rw [← h.1]; exact h1
theorem partsL_fit (part : FRd → Option (List T × FRd)) (e : UInt8) (N : Nat) (hv : ∀ r ks r1, r.s.length ≤ N → part r = some (ks, r1) → Fit ks ∧ ks.length ≤ 2 ∧ r.Sub r1) : ∀ (m : Nat) (r : FRd) (l l1 : List T) (r1 : FRd), r.s.length ≤ N → Fit l → FRd.partsL part e m r l = some (l1, r1) → Fit l1 ∧ l1.length ≤ l.length + 2 * m
  | 0, r, l, l1, r1, _, _, h => by simp [FRd.partsL] at h
  | m + 1, r, l, l1, r1, h0, h1, h => by
    rw [FRd.partsL] at h
    split at h
    · split at h
      · cases h
      · rename_i ks r2 hx
        obtain ⟨f1, f2, f3⟩ := hv _ _ _ h0 hx
        have h2 : (r2.skip 0).s.length ≤ N := by have := (f3.trans (FRd.sub_skip r2 0)).2; omega
        have h3 := partsL_fit part e N hv m _ _ _ _ (by
          split
          · have := (FRd.sub_skip (r2.skip 0) 1).2; omega
          split
          · exact h2
          · have := (FRd.sub_stray (r2.skip 0)).2; omega) (h1.append f1) h
        rw [List.length_append] at h3
        exact ⟨h3.1, by omega⟩
    · simp only [Option.some.injEq, Prod.mk.injEq] at h
      rw [← h.1]
      exact ⟨h1, by omega⟩
theorem value_fit (N : Nat) (hN : N ≤ 1073741824) : ∀ (k : Nat) (r : FRd) (f : Bool) (deep : Int) (t : T) (r1 : FRd), k ≤ 1073741824 → r.s.length ≤ N → FRd.value k r f deep = some (t, r1) → Fit [t]
  | 0, r, f, deep, t, r1, _, _, h => by simp [FRd.value] at h
  | k + 1, r, f, deep, t, r1, hk, h0, h => by
    rw [FRd.value] at h
    rcases hx : FRd.props f 4 (r.skip 0) Pr.no with _ | ⟨p, rp⟩
    · rw [hx] at h; cases h
    rw [hx] at h
    have hs := (FRd.sub_skip r 0).trans (FRd.sub_props f 4 _ _ _ _ hx)
    have hs2 := hs.2
    have hs3 := (FRd.sub_skip r 0).2
    have hp := props_anchor f N 4 _ _ _ _ (by omega) (by simp) hx
    have list : ∀ (part : FRd → Option (List T × FRd)) (kind : Int) (e : UInt8), (∀ r ks r1, r.s.length ≤ N → part r = some (ks, r1) → Fit ks ∧ ks.length ≤ 2 ∧ r.Sub r1) → FRd.list part kind e (k + 1) deep p rp = some (t, r1) → Fit [t] := fun part kind e hv h => by
      unfold FRd.list at h
      split at h
      · simp only [Option.some.injEq, Prod.mk.injEq] at h; rw [← h.1]; exact .cons _ _ _ _ _ (by simp) (by simp) (by simp) .nil .nil
      unfold FRd.parts at h
      rcases hy : FRd.partsL part e (k + 1) (rp.skip 1) [] with _ | ⟨l, r2⟩
      · rw [hy] at h; cases h
      rw [hy] at h
      simp only [Option.some.injEq, Prod.mk.injEq] at h
      rw [← h.1]
      have hl := (FRd.sub_skip rp 1).2
      obtain ⟨a1, a2⟩ := partsL_fit part e N hv (k + 1) _ _ _ _ (by omega) .nil hy
      exact .cons _ _ _ _ _ (by simp) (by omega) (by simp at a2; omega) a1 .nil
    dsimp only at h
    split at h
    · simp only [Option.some.injEq, Prod.mk.injEq] at h
      rw [← h.1]
      have h3 := word_len (rp.starR p).s lettersBs
      have h4 : (rp.starR p).s.length ≤ rp.s.length := by
        unfold FRd.starR
        refine Nat.le_trans (FRd.sub_dropS _ 1).2 ?_
        split
        · exact Nat.le_refl _
        · exact (FRd.sub_stray _).2
      exact .cons _ _ _ _ _ (by simp) (by omega) (by simp) .nil .nil
    split at h
    · refine list _ _ _ (fun r' ks r1' h0' h' => ?_) h
      unfold FRd.item at h'
      have hi := FRd.sub_itemR r'
      have hi2 := hi.2
      split at h'
      · cases h'
      · rename_i u ru hu
        simp only [Option.some.injEq, Prod.mk.injEq] at h'
        obtain ⟨rfl, rfl⟩ := h'
        exact ⟨value_fit N hN k _ _ _ _ _ (by omega) (by omega) hu, by simp, hi.trans (FRd.sub_value _ _ _ _ _ _ hu)⟩
    split at h
    · refine list _ _ _ (fun r' ks r1' h0' h' => ?_) h
      have hsub := FRd.sub_entry (value := fun r => FRd.value k r true (deep + 1)) (fun r t r' h => FRd.sub_value k r true (deep + 1) t r' h) r' ks r1' h'
      unfold FRd.entry at h'
      have hk2 := (((FRd.sub_key r').trans (FRd.sub_skip _ 0)).trans (FRd.sub_skip _ 1)).2
      have hst := scalar_text r' true
      split at h'
      · split at h'
        · cases h'
        · rename_i u ru hu
          simp only [Option.some.injEq, Prod.mk.injEq] at h'
          obtain ⟨rfl, rfl⟩ := h'
          exact ⟨(fit_scalar _ _ _ (by omega) (by simp)).append (value_fit N hN k _ _ _ _ _ (by omega) (by omega) hu), by simp, hsub⟩
      · simp only [Option.some.injEq, Prod.mk.injEq] at h'
        obtain ⟨rfl, rfl⟩ := h'
        exact ⟨.nil, by simp, hsub⟩
    · simp only [Option.some.injEq, Prod.mk.injEq] at h
      rw [← h.1]
      have hst := scalar_text rp f
      exact fit_scalar _ _ _ (by omega) (by omega)
theorem fit_zero : Fit [zeroT] := .cons _ _ _ _ _ (by simp) (by simp) (by simp) .nil .nil
theorem read_fit (n : Nat) (hn : n ≤ 1073741824) (s : Bs) (hs : s.length ≤ 1073741824) (f : Bool) (t : T) (k y a : Int) (h : readM n s f = some (t, k, y, a)) : Fit [t] := by
  unfold readM at h
  rcases hv : FRd.value n (FRd.start s) f 0 with _ | ⟨t', r⟩
  · rw [hv] at h; cases h
  rw [hv] at h
  have hf := value_fit s.length hs n (FRd.start s) f 0 t' r hn (Nat.le_refl _) hv
  dsimp only at h
  split at h
  · simp only [Option.some.injEq, Prod.mk.injEq] at h; rw [← h.1]; exact hf
  · simp only [Option.some.injEq, Prod.mk.injEq] at h; rw [← h.1]; exact fit_zero
theorem read_cases (k : Nat) (s : Bs) (f : Bool) (t : T) (e y a : Int) (h : readM (k + 1) s f = some (t, e, y, a)) : (y = 0 ∧ a = 0 ∧ 0 ≤ e ∧ e ≤ s.length) ∨ (y ≠ 0 ∧ t = zeroT ∧ e = 0) := by
  rcases read_ahead 0 k s f t e y a h with ⟨h1, h2, _, _, h3, h4, _⟩ | ⟨h1, h2, h3, _⟩
  · exact .inl ⟨h1, h2, h3, h4⟩
  · exact .inr ⟨h1, h2, h3⟩
/-- Whole's contract, in one. -/
theorem flow_Whole (n : Nat) (hn : n < 4294967296) (s : Bs) (hs : s.length ≤ 65536) (t : T) (y a : Int) (hm : wholeM (n + 1) s = some (t, y, a)) (G : Nat) (w : World) (he : Env G w) :
    Calls Tryz.prog 13 #[St s] w fun e w' => (∃ v, Rep1 w' (fun b => w.heap.size ≤ b) t v ∧ e = .returned (.tuple #[v, Ft y a])) ∧ Below w.heap.size w w' := by
  unfold wholeM at hm
  rw [if_neg (by omega)] at hm
  rcases hr : readM (n + 1) s false with _ | ⟨t', k, y', a'⟩
  · rw [hr] at hm; cases hm
  rw [hr] at hm
  dsimp only at hm
  rcases read_cases n s false t' k y' a' hr with ⟨rfl, rfl, h3, h4⟩ | ⟨h1, rfl, rfl⟩
  · rw [if_neg (by simp)] at hm
    by_cases hx : trimL (s.drop k.toNat) [32] = []
    · rw [if_neg (by simpa using hx)] at hm
      simp only [Option.some.injEq, Prod.mk.injEq] at hm
      obtain ⟨rfl, rfl, rfl⟩ := hm
      exact flow_Whole_ok (n + 1) (by omega) s hs t' k hr h3 h4 hx G w he
    · rw [if_pos hx] at hm
      simp only [Option.some.injEq, Prod.mk.injEq] at hm
      obtain ⟨rfl, rfl, rfl⟩ := hm
      obtain ⟨x, z, hz⟩ := List.exists_cons_of_ne_nil hx
      have := flow_Whole_rest (n + 1) (by omega) s hs t' k hr h3 h4 x z hz G w he
      refine this.mono ?_
      rintro e w' ⟨rfl, hb⟩
      refine ⟨⟨_, rep_leaf _ _ _ _ _, ?_⟩, hb⟩
      rw [hz, List.length_cons]
      rfl
  · rw [if_pos (fun x => h1 x.1)] at hm
    simp only [Option.some.injEq, Prod.mk.injEq] at hm
    obtain ⟨rfl, rfl, rfl⟩ := hm
    refine (flow_Whole_ill (n + 1) (by omega) s hs zeroT 0 y' a' hr h1 G w he).mono ?_
    rintro e w' ⟨rfl, hb⟩
    exact ⟨⟨_, rep_leaf _ _ _ _ _, rfl⟩, hb⟩
theorem whole_fit (n : Nat) (hn : n ≤ 1073741824) (s : Bs) (t : T) (y a : Int) (hm : wholeM n s = some (t, y, a)) : Fit [t] := by
  unfold wholeM at hm
  split at hm
  · simp only [Option.some.injEq, Prod.mk.injEq] at hm; rw [← hm.1]; exact fit_zero
  rename_i hs
  rcases hr : readM n s false with _ | ⟨t', k, y', a'⟩
  · rw [hr] at hm; cases hm
  rw [hr] at hm
  dsimp only at hm
  have hf := read_fit n hn s (by omega) false t' k y' a' hr
  split at hm
  · simp only [Option.some.injEq, Prod.mk.injEq] at hm; rw [← hm.1]; exact fit_zero
  split at hm
  · simp only [Option.some.injEq, Prod.mk.injEq] at hm; rw [← hm.1]; exact fit_zero
  · simp only [Option.some.injEq, Prod.mk.injEq] at hm; rw [← hm.1]; exact hf
theorem whole_total (n : Nat) (s : Bs) (hn : s.length + 68 ≤ n) : ∃ t y a, wholeM n s = some (t, y, a) := by
  unfold wholeM
  split
  · exact ⟨_, _, _, rfl⟩
  obtain ⟨t, k, y, a, hr⟩ := read_total s false n hn
  rw [hr]
  dsimp only
  split
  · exact ⟨_, _, _, rfl⟩
  split
  · exact ⟨_, _, _, rfl⟩
  · exact ⟨_, _, _, rfl⟩
/-- Blanks ahead. -/
theorem whole_ahead (n k : Nat) (s : Bs) (hs : s.length ≤ 8000) (hn : n < 20) (t : T) (y a : Int) (h : wholeM (k + 1) s = some (t, y, a)) :
    (y = 0 ∧ a = 0 ∧ wholeM (k + 1) (sp n ++ s) = some (t, 0, 0)) ∨ (y ≠ 0 ∧ t = zeroT ∧ wholeM (k + 1) (sp n ++ s) = some (zeroT, y, a + n)) := by
  have hl : (sp n ++ s).length = n + s.length := by rw [List.length_append, List.length_replicate]
  unfold wholeM at h ⊢
  rw [if_neg (by omega)] at h
  rw [if_neg (by omega)]
  rcases hr : readM (k + 1) s false with _ | ⟨t', e, y', a'⟩
  · rw [hr] at h; cases h
  rw [hr] at h
  dsimp only at h
  rcases read_ahead n k s false t' e y' a' hr with ⟨rfl, rfl, e', h1, h2, h3, h4, h5, h6⟩ | ⟨h1, rfl, rfl, h2⟩
  · rw [h1]
    dsimp only
    rw [h6]
    rw [if_neg (by simp)] at h ⊢
    by_cases hx : trimL (s.drop e.toNat) [32] = []
    · rw [if_neg (by simpa using hx)] at h ⊢
      simp only [Option.some.injEq, Prod.mk.injEq] at h
      obtain ⟨rfl, rfl, rfl⟩ := h
      exact .inl ⟨rfl, rfl, rfl⟩
    · rw [if_pos hx] at h ⊢
      simp only [Option.some.injEq, Prod.mk.injEq] at h
      obtain ⟨rfl, rfl, rfl⟩ := h
      refine .inr ⟨by decide, rfl, ?_⟩
      rw [hl]
      have : ((n + s.length : Nat) : Int) - ((trimL (s.drop e.toNat) [32]).length : Int) = (s.length : Int) - ((trimL (s.drop e.toNat) [32]).length : Int) + n := by omega
      rw [this]
  · rw [h2]
    dsimp only
    rw [if_pos (fun x => h1 x.1)] at h ⊢
    simp only [Option.some.injEq, Prod.mk.injEq] at h
    obtain ⟨rfl, rfl, rfl⟩ := h
    exact .inr ⟨h1, rfl, rfl⟩
theorem start_bh (n : Nat) (s : Bs) : Bh n (FRd.start s) (FRd.start (s ++ sp n)) := by
  refine ⟨rfl, rfl, rfl, rfl, ?_, .inl rfl⟩
  show (((s ++ sp n).length : Nat) : Int) = ((s.length : Nat) : Int) + n
  rw [List.length_append, List.length_replicate]
  omega
theorem trimL_blanks (l : Bs) (n : Nat) (h : trimL l [32] = []) : trimL (l ++ sp n) [32] = [] := by
  rcases trimL_behind l n with ⟨a, _⟩ | ⟨_, b⟩
  · exact absurd h a
  · exact b
theorem trimL_none (l : Bs) (h : trimL l [32] = []) : l = sp l.length := by
  induction l with
  | nil => rfl
  | cons a b ih =>
    by_cases ha : a = 32
    · subst ha
      rw [trimL_sp] at h
      have := ih h
      rw [List.length_cons]
      show 32 :: b = 32 :: sp b.length
      rw [← this]
    · rw [trimL_ne a b ha] at h; cases h
/-- Blanks behind. -/
theorem whole_behind (n k : Nat) (s : Bs) (hs : s.length ≤ 8000) (hn : n < 20) (t : T) (h : wholeM (k + 1) s = some (t, 0, 0)) : wholeM (k + 1) (s ++ sp n) = some (t, 0, 0) := by
  have hl : (s ++ sp n).length = s.length + n := by rw [List.length_append, List.length_replicate]
  unfold wholeM at h ⊢
  rw [if_neg (by omega)] at h
  rw [if_neg (by omega)]
  rcases hr : readM (k + 1) s false with _ | ⟨t', e, y', a'⟩
  · rw [hr] at h; cases h
  rw [hr] at h
  dsimp only at h
  rcases read_cases k s false t' e y' a' hr with ⟨rfl, rfl, h3, h4⟩ | ⟨h1, rfl, rfl⟩
  · rw [if_neg (by simp)] at h
    by_cases hx : trimL (s.drop e.toNat) [32] = []
    · rw [if_neg (by simpa using hx)] at h
      simp only [Option.some.injEq, Prod.mk.injEq] at h
      obtain ⟨rfl, -, -⟩ := h
      unfold readM at hr ⊢
      rcases hv : FRd.value (k + 1) (FRd.start s) false 0 with _ | ⟨t0, r⟩
      · rw [hv] at hr; cases hr
      rw [hv] at hr
      dsimp only at hr
      have hw : r.well = true := by
        by_cases x : r.well = true
        · exact x
        · rw [if_neg x] at hr
          simp only [Option.some.injEq, Prod.mk.injEq] at hr
          obtain ⟨_, _, h5, h6⟩ := hr
          unfold FRd.well at x
          rw [h5, h6] at x
          exact absurd rfl x
      rw [if_pos hw] at hr
      simp only [Option.some.injEq, Prod.mk.injEq] at hr
      obtain ⟨rfl, rfl, -, -⟩ := hr
      obtain ⟨r', hv', hb⟩ := value_bh n (k + 1) false 0 _ _ _ _ (start_bh n s) hv hw
      dsimp only at hv'
      rw [hv']
      dsimp only
      rw [if_pos hb.well.2]
      dsimp only
      rw [if_neg (by simp)]
      have hsub := FRd.sub_value _ _ _ _ _ _ hv
      have hsl : r.s.length ≤ s.length := hsub.2
      have hwh : r.whole = s.length := hsub.1
      rw [Int.toNat_natCast] at hx ⊢
      have hpos : r.pos.toNat ≤ s.length := by unfold FRd.pos; omega
      have key : trimL ((s ++ sp n).drop (trimR ((s ++ sp n).take r'.pos.toNat) [32]).length) [32] = [] := by
        rcases hb.2.2.2.2.2 with e1 | ⟨e1, e2⟩
        · have hpp : r'.pos = r.pos := by unfold FRd.pos; rw [e1, hb.2.2.2.2.1, List.length_append, List.length_replicate]; omega
          rw [hpp, List.take_append_of_le_length hpos]
          have hq : (trimR (s.take r.pos.toNat) [32]).length ≤ s.length := by
            have := trimR_le (s.take r.pos.toNat) [32]
            rw [List.length_take] at this
            omega
          rw [drop_behind _ _ _ hq]
          exact trimL_blanks _ _ hx
        · have hp1 : r.pos.toNat = s.length := by unfold FRd.pos; rw [e1, hwh]; simp
          have hp2 : r'.pos.toNat = (s ++ sp n).length := by unfold FRd.pos; rw [e2, hb.2.2.2.2.1, hwh, hl]; simp; omega
          rw [hp1, List.take_length] at hx
          rw [hp2, List.take_length, trimR_behind]
          have hq : (trimR s [32]).length ≤ s.length := trimR_le s [32]
          rw [drop_behind _ _ _ hq]
          exact trimL_blanks _ _ hx
      rw [if_neg (by simpa using key)]
    · rw [if_pos hx] at h
      simp at h
  · rw [if_pos (fun x => h1 x.1)] at h
    simp only [Option.some.injEq, Prod.mk.injEq] at h
    exact absurd h.2.1 h1
end Go.Proofs.YtbmonfcahhhdeaaGreatDoor

namespace Go.Proofs.YtbmonfcahhhdeaaGreatDoor
open Go.RowKit

/-- The place of a reader's fault lies near its text. -/
def FRd.Ab (r : FRd) : Prop := (r.s.length : Int) ≤ r.whole ∧ 0 ≤ r.at_ ∧ r.at_ ≤ r.whole + 32
theorem FRd.Ab.pos {r : FRd} (h : r.Ab) : 0 ≤ r.pos ∧ r.pos ≤ r.whole := by
  have := h.1
  unfold FRd.pos
  omega
theorem FRd.Ab.wrong {r : FRd} (h : r.Ab) (e : Int) {a : Int} (h0 : 0 ≤ a) (h1 : a ≤ r.whole + 32) : (r.wrong e a).Ab := by
  unfold FRd.wrong
  split
  · exact ⟨h.1, h0, h1⟩
  · exact h
theorem FRd.Ab.stray {r : FRd} (h : r.Ab) : r.stray.Ab := by
  unfold FRd.stray
  have hp := h.pos
  split
  · exact FRd.Ab.wrong (h.wrong 4 (by omega) (by omega)) 3 hp.1 (by rw [FRd.wrong_whole]; omega)
  · exact h.wrong 3 hp.1 (by omega)
theorem FRd.Ab.less {r r' : FRd} (h : r.Ab) (hs : r'.s.length ≤ r.s.length) (hw : r'.whole = r.whole) (ha : r'.at_ = r.at_) : r'.Ab := by
  refine ⟨?_, ?_, ?_⟩
  · have := h.1; omega
  · rw [ha]; exact h.2.1
  · rw [ha, hw]; exact h.2.2
theorem FRd.Ab.dropS {r : FRd} (h : r.Ab) (n : Nat) : (r.dropS n).Ab := h.less (FRd.sub_dropS r n).2 rfl rfl
theorem FRd.Ab.skip {r : FRd} (h : r.Ab) (n : Nat) : (r.skip n).Ab := h.less (FRd.sub_skip r n).2 rfl rfl
theorem FRd.Ab.cut {r : FRd} (h : r.Ab) (set : Bs) : (r.cut set).Ab := h.less (FRd.sub_cut r set).2 rfl rfl
theorem FRd.Ab.name {r : FRd} (h : r.Ab) : r.name.Ab := by
  unfold FRd.name
  have hp := h.pos
  split
  · exact (h.cut _).stray
  split
  · exact (h.cut _).wrong 3 (by omega) (show r.pos + 32 ≤ r.whole + 32 by omega)
  · exact h.cut _
theorem FRd.Ab.tag {r : FRd} (h : r.Ab) : r.tag.2.Ab := by
  unfold FRd.tag
  split
  · exact (h.dropS 1).stray
  split
  · exact ((h.dropS 2).cut _).stray
  split
  · have hp := (h.dropS 2).pos
    exact ((h.dropS 2).cut _).wrong 3 hp.1 (show (r.dropS 2).pos ≤ (r.dropS 2).whole + 32 by omega)
  · exact (h.dropS 2).cut _
theorem FRd.Ab.after {r : FRd} (h : r.Ab) (f : Bool) : (r.after f).Ab := by
  unfold FRd.after
  have hp := h.pos
  split
  · exact (h.wrong 3 hp.1 (by omega)).skip 0
  · exact h.skip 0
theorem FRd.Ab.props (f : Bool) : ∀ (k : Nat) (r : FRd) (p q : Pr) (r1 : FRd), r.Ab → 0 ≤ p.tagAt → p.tagAt ≤ r.whole + 32 → FRd.props f k r p = some (q, r1) → r1.Ab ∧ 0 ≤ q.tagAt ∧ q.tagAt ≤ r1.whole + 32
  | 0, r, p, q, r1, _, _, _, h => by simp [FRd.props] at h
  | k + 1, r, p, q, r1, h, h0, h1, hm => by
    rw [FRd.props] at hm
    split at hm
    · simp only [Option.some.injEq, Prod.mk.injEq] at hm; obtain ⟨rfl, rfl⟩ := hm; exact ⟨h, h0, h1⟩
    split at hm
    · have hw := (((FRd.sub_dropS r 1).trans (FRd.sub_name _)).trans (FRd.sub_after _ f)).1
      exact FRd.Ab.props f k _ ⟨wordL (r.s.drop 1) lettersBs, p.tag, p.tagAt⟩ _ _ (((h.dropS 1).name).after f) h0 (by rw [hw]; exact h1) hm
    split at hm
    · have hw := ((FRd.sub_tag r).trans (FRd.sub_after _ f)).1
      have hp := h.pos
      exact FRd.Ab.props f k _ ⟨p.anchor, r.tag.1, r.pos⟩ _ _ (h.tag.after f) hp.1 (by rw [hw]; show r.pos ≤ _; omega) hm
    · simp only [Option.some.injEq, Prod.mk.injEq] at hm; obtain ⟨rfl, rfl⟩ := hm; exact ⟨h, h0, h1⟩
theorem FRd.Ab.scalar {r : FRd} (h : r.Ab) (f : Bool) : (r.scalar f).2.2.Ab := by
  unfold FRd.scalar
  have hp := h.pos
  split
  · split
    · have hb := qread_bounds r.s
      refine FRd.Ab.dropS ?_ _
      unfold FRd.wrongAs
      split
      · exact h
      · exact h.wrong _ (by omega) (by have := h.1; unfold FRd.pos at hp ⊢; omega)
    · dsimp only
      split
      · exact h.stray.dropS _
      · exact h.dropS _
  · exact h
theorem FRd.Ab.made {r : FRd} (h : r.Ab) (t : Bs) (q : Bool) (tag tagAt : Int) (h0 : 0 ≤ tagAt) (h1 : tagAt ≤ r.whole + 32) : (r.made t q tag tagAt).2.Ab := by
  unfold FRd.made
  split
  · exact h
  split
  · exact h.wrong 12 h0 h1
  split
  · exact h
  · exact h
/-- A part that keeps the place near. -/
def AbP {α : Type} (v : FRd → Option (α × FRd)) : Prop := ∀ r t r1, r.Ab → v r = some (t, r1) → r1.Ab
theorem AbP.item {v : FRd → Option (T × FRd)} (hv : AbP v) : AbP (FRd.item v) := by
  intro r t r1 h hm
  unfold FRd.item at hm
  have hi : r.itemR.Ab := by
    unfold FRd.itemR
    split
    · exact h.stray
    · exact h
  split at hm
  · cases hm
  · rename_i u r2 hx
    simp only [Option.some.injEq, Prod.mk.injEq] at hm
    obtain ⟨_, rfl⟩ := hm
    exact hv _ _ _ hi hx
theorem AbP.entry {v : FRd → Option (T × FRd)} (hv : AbP v) : AbP (FRd.entry v) := by
  intro r t r1 h hm
  have hK : r.keyR.Ab := by
    unfold FRd.keyR
    split
    · exact (h.scalar true).stray
    · exact h.scalar true
  have hk : r.key.2.Ab := hK.made _ _ 0 0 (by omega) (by have := hK.1; omega)
  unfold FRd.entry at hm
  split at hm
  · split at hm
    · cases hm
    · rename_i u r2 hx
      simp only [Option.some.injEq, Prod.mk.injEq] at hm
      obtain ⟨_, rfl⟩ := hm
      exact hv _ _ _ ((hk.skip 0).skip 1) hx
  · simp only [Option.some.injEq, Prod.mk.injEq] at hm
    obtain ⟨_, rfl⟩ := hm
    exact (hk.skip 0).stray
theorem AbP.partsL {v : FRd → Option (List T × FRd)} (hv : AbP v) (e : UInt8) : ∀ (m : Nat) (r : FRd) (l l1 : List T) (r1 : FRd), r.Ab → FRd.partsL v e m r l = some (l1, r1) → r1.Ab
  | 0, r, l, l1, r1, _, h => by simp [FRd.partsL] at h
  | m + 1, r, l, l1, r1, h, hm => by
    rw [FRd.partsL] at hm
    split at hm
    · split at hm
      · cases hm
      · rename_i ks r2 hx
        have h2 := (hv _ _ _ h hx).skip 0
        refine AbP.partsL hv e m _ _ _ _ ?_ hm
        split
        · exact h2.skip 1
        split
        · exact h2
        · exact h2.stray
    · simp only [Option.some.injEq, Prod.mk.injEq] at hm
      obtain ⟨_, rfl⟩ := hm
      exact h
theorem AbP.list {v : FRd → Option (List T × FRd)} (hs : ∀ r t r1, v r = some (t, r1) → r.Sub r1) (hv : AbP v) (kind : Int) (e : UInt8) (m : Nat) (deep : Int) (p : Pr) (r : FRd) (t : T) (r1 : FRd) (h : r.Ab) (h0 : 0 ≤ p.tagAt) (h1 : p.tagAt ≤ r.whole + 32) (hm : FRd.list v kind e m deep p r = some (t, r1)) : r1.Ab := by
  unfold FRd.list at hm
  split at hm
  · simp only [Option.some.injEq, Prod.mk.injEq] at hm
    obtain ⟨_, rfl⟩ := hm
    have hp := h.pos
    exact h.wrong 10 hp.1 (by omega)
  · split at hm
    · cases hm
    · rename_i l r2 hx
      simp only [Option.some.injEq, Prod.mk.injEq] at hm
      obtain ⟨_, rfl⟩ := hm
      have hw := (FRd.sub_parts hs e m _ _ _ hx).1
      unfold FRd.parts at hx
      split at hx
      · cases hx
      · rename_i l3 r3 hy
        simp only [Option.some.injEq, Prod.mk.injEq] at hx
        obtain ⟨_, rfl⟩ := hx
        have h3 := AbP.partsL hv e m _ _ _ _ (h.skip 1) hy
        have h4 : (if r3.well = true then r3.dropS 1 else r3).Ab := by
          split
          · exact h3.dropS 1
          · exact h3
        split
        · exact h4.wrong 12 h0 (by rw [hw]; exact h1)
        · exact h4
theorem value_ab : ∀ (k : Nat) (f : Bool) (deep : Int), AbP (fun r => FRd.value k r f deep)
  | 0, f, deep => fun r t r1 h hm => by simp [FRd.value] at hm
  | k + 1, f, deep => by
    intro r t r1 h hm
    have ih := value_ab k true (deep + 1)
    have is : ∀ r t r1, FRd.value k r true (deep + 1) = some (t, r1) → r.Sub r1 := fun r t r1 h => FRd.sub_value k r true (deep + 1) t r1 h
    simp only [] at hm
    rw [FRd.value] at hm
    rcases hx : FRd.props f 4 (r.skip 0) Pr.no with _ | ⟨p, rp⟩
    · rw [hx] at hm; cases hm
    rw [hx] at hm
    obtain ⟨h2, h3, h4⟩ := FRd.Ab.props f 4 _ _ _ _ (h.skip 0) (Int.le_refl _) (by show (0 : Int) ≤ (r.skip 0).whole + 32; have := (h.skip 0).1; omega) hx
    dsimp only at hm
    split at hm
    · simp only [Option.some.injEq, Prod.mk.injEq] at hm
      obtain ⟨_, rfl⟩ := hm
      refine FRd.Ab.name ?_
      unfold FRd.starR
      refine FRd.Ab.dropS ?_ 1
      split
      · exact h2
      · exact h2.stray
    split at hm
    · exact AbP.list (fun r t r' h => FRd.sub_item is r t r' h) ih.item _ _ _ _ _ _ _ _ h2 h3 h4 hm
    split at hm
    · exact AbP.list (fun r t r' h => FRd.sub_entry is r t r' h) ih.entry _ _ _ _ _ _ _ _ h2 h3 h4 hm
    · simp only [Option.some.injEq, Prod.mk.injEq] at hm
      obtain ⟨_, rfl⟩ := hm
      exact (h2.scalar f).made _ _ _ _ h3 (by rw [(FRd.sub_scalar rp f).1]; exact h4)
theorem read_at (n : Nat) (s : Bs) (f : Bool) (t : T) (k y a : Int) (h : readM n s f = some (t, k, y, a)) : 0 ≤ a ∧ a ≤ s.length + 32 := by
  unfold readM at h
  rcases hv : FRd.value n (FRd.start s) f 0 with _ | ⟨t', r⟩
  · rw [hv] at h; cases h
  rw [hv] at h
  have ha := value_ab n f 0 _ _ _ (show (FRd.start s).Ab from ⟨Int.le_refl _, Int.le_refl _, by show (0 : Int) ≤ (s.length : Int) + 32; omega⟩) hv
  have hw := (FRd.sub_value _ _ _ _ _ _ hv).1
  have hw2 : (FRd.start s).whole = s.length := rfl
  dsimp only at h
  split at h
  · simp only [Option.some.injEq, Prod.mk.injEq] at h
    omega
  · simp only [Option.some.injEq, Prod.mk.injEq] at h
    rw [← h.2.2.2]
    have := ha.2.1
    have := ha.2.2
    omega
theorem whole_at (n : Nat) (s : Bs) (t : T) (y a : Int) (h : wholeM n s = some (t, y, a)) : 0 ≤ a ∧ a ≤ s.length + 32 := by
  unfold wholeM at h
  split at h
  · simp only [Option.some.injEq, Prod.mk.injEq] at h
    omega
  rcases hr : readM n s false with _ | ⟨t', k, y', a'⟩
  · rw [hr] at h; cases h
  rw [hr] at h
  dsimp only at h
  have hb := read_at n s false t' k y' a' hr
  split at h
  · simp only [Option.some.injEq, Prod.mk.injEq] at h; omega
  split at h
  · simp only [Option.some.injEq, Prod.mk.injEq] at h
    have := trimL_le (s.drop k.toNat) [32]
    rw [List.length_drop] at this
    omega
  · simp only [Option.some.injEq, Prod.mk.injEq] at h; omega
end Go.Proofs.YtbmonfcahhhdeaaGreatDoor
