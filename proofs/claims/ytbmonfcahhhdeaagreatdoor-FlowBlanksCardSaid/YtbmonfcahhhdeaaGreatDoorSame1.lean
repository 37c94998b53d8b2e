/- The walk of the document's Same, at one tree that lies twice. -/
import Derived.Test.YtbmonfcahhhdeaaGreatDoorFW5
import Derived.Deep.RegionWith
set_option linter.unusedVariables false
set_option linter.unusedSimpArgs false
namespace Go.Proofs.YtbmonfcahhhdeaaGreatDoor
open Go.RowKit

/-- Same's contract at trees of a size: the same tree twice. -/
def SameSpec (m : Nat) : Prop := ∀ (k : Int) (t a : Bs) (kids : List T) (A1 A2 : Option Addr) (n1 n2 c1 c2 : Nat), SizeOf.sizeOf kids < m → Fit [.mk k t a kids] →
  ∀ (K1 K2 : Nat → Prop) (w : World), See w K1 [.mk k t a kids] [.int .i64 k, St t, St a, .slice A1 n1 c1] → See w K2 [.mk k t a kids] [.int .i64 k, St t, St a, .slice A2 n2 c2] →
    Calls Tryz.prog 14 #[.agg #[.int .i64 k, St t, St a, .slice A1 n1 c1], .agg #[.int .i64 k, St t, St a, .slice A2 n2 c2]] w fun e w' => e = .returned (.bool true) ∧ Below w.heap.size w w'
/-- What stands when the loop comes to kid i. -/
def SameR (kids : List T) (K1 K2 : Nat → Prop) (k : Int) (t a : Bs) (A1 A2 : Option Addr) (n c1 c2 F : Nat) (w wr : World) : Prop :=
  wr.heap[F]? = some (.cells #[.int .i64 k, St t, St a, .slice A1 n c1] 24) ∧ wr.heap[F + 1]? = some (.cells #[.int .i64 k, St t, St a, .slice A2 n c2] 24) ∧
    See wr K1 [.mk k t a kids] [.int .i64 k, St t, St a, .slice A1 n c1] ∧ See wr K2 [.mk k t a kids] [.int .i64 k, St t, St a, .slice A2 n c2] ∧ Below F w wr

set_option maxHeartbeats 8000000 in
set_option maxRecDepth 100000 in
theorem same_step (m : Nat) (ih : SameSpec m) : SameSpec (m + 1) := by
  intro k t a kids A1 A2 n1 n2 c1 c2 hm hfit K1 K2 w hr1 hr2
  obtain ⟨F, hF⟩ : ∃ F, w.heap.size = F := ⟨_, rfl⟩
  have hl : kids.length ≤ 4294967296 ∧ Fit kids := by
    cases hfit with | cons _ _ _ _ _ h1 h2 h3 h4 h5 => exact ⟨h3, h4⟩
  have e1 := hr1.count
  have e2 := hr2.count
  obtain ⟨n, hn⟩ : ∃ n, n = kids.length := ⟨_, rfl⟩
  rw [← hn] at e1 e2
  subst e1
  subst e2
  have hb : Below w.heap.size w ((w.alloc (.cells #[.int .i64 k, St t, St a, .slice A1 n2 c1] 24)).alloc (.cells #[.int .i64 k, St t, St a, .slice A2 n2 c2] 24)) := ((Below.refl _ _).alloc (Nat.le_refl _) _).alloc (by simp) _
  have hS : SameR kids K1 K2 k t a A1 A2 n2 c1 c2 F w ((w.alloc (.cells #[.int .i64 k, St t, St a, .slice A1 n2 c1] 24)).alloc (.cells #[.int .i64 k, St t, St a, .slice A2 n2 c2] 24)) :=
    ⟨by rw [← hF]; exact blk_alloc (blk_new _ _), by rw [← hF]; exact blk_new1 _ _ _, hr1.under hb, hr2.under hb, by rw [← hF]; exact hb⟩
  obtain ⟨x0, x1, x2, x3, y0, y1, y2, y3⟩ := cells4 hS.1
  obtain ⟨p0, p1, p2, p3, q0, q1, q2, q3⟩ := cells4 hS.2.1
  have HS := Lib.hid hS
  have HN := Lib.hid hn
  have HM := Lib.hid (And.intro hm hl)
  clear hr1 hr2 hb hS hn hm hl hfit
  go_enter Tryz.func14, Tryz.ntmps14
  go_wp2_with fail
  go_loopw [5] (fun v wr => ∃ i : Nat, v = .int .i64 i ∧ i ≤ n2 ∧ SameR kids K1 K2 k t a A1 A2 n2 c1 c2 F w wr) (fun v _ => n2 - (intOf v).toNat)
  case atStart => exact ⟨0, rfl, by omega, HS.out⟩
  case round =>
    obtain ⟨i, rfl, hin, hx, hy, hra, hrb, hbb⟩ := hrel
    clear x0 x1 x2 x3 y0 y1 y2 y3 p0 p1 p2 p3 q0 q1 q2 q3
    obtain ⟨x0, x1, x2, x3, y0, y1, y2, y3⟩ := cells4 hx
    obtain ⟨p0, p1, p2, p3, q0, q1, q2, q3⟩ := cells4 hy
    by_cases hi : i < n2
    · have hi' : (i : Int) < (n2 : Int) := by omega
      have hnk := HN.out
      rcases hdr : kids.drop i with _ | ⟨⟨k', t', a', kids'⟩, rest⟩
      · have := congrArg List.length hdr
        rw [List.length_drop] at this
        simp at this
        omega
      have hmem : T.mk k' t' a' kids' ∈ kids := List.mem_of_mem_drop (by rw [hdr]; exact List.mem_cons_self)
      have hsz := List.sizeOf_lt_of_mem hmem
      have hsz2 : SizeOf.sizeOf kids' < SizeOf.sizeOf (T.mk k' t' a' kids') := by simp; omega
      obtain ⟨b1, o1, A1', m1, d1, rfl, hc1, hrE1⟩ := hra.elem i hdr
      obtain ⟨b2, o2, A2', m2, d2, rfl, hc2, hrE2⟩ := hrb.elem i hdr
      have hfitE := HM.out.2.2.elem i hdr
      have g0 : wr.drew.cell? ⟨b1, o1 + i * 4, none⟩ = some (.int .i64 k') := hc1 0 (by decide)
      have g1 : wr.drew.cell? ⟨b1, o1 + i * 4 + 1, none⟩ = some (St t') := hc1 1 (by decide)
      have g2 : wr.drew.cell? ⟨b1, o1 + i * 4 + 2, none⟩ = some (St a') := hc1 2 (by decide)
      have g3 : wr.drew.cell? ⟨b1, o1 + i * 4 + 3, none⟩ = some (.slice A1' m1 d1) := hc1 3 (by decide)
      have j0 : wr.drew.cell? ⟨b2, o2 + i * 4, none⟩ = some (.int .i64 k') := hc2 0 (by decide)
      have j1 : wr.drew.cell? ⟨b2, o2 + i * 4 + 1, none⟩ = some (St t') := hc2 1 (by decide)
      have j2 : wr.drew.cell? ⟨b2, o2 + i * 4 + 2, none⟩ = some (St a') := hc2 2 (by decide)
      have j3 : wr.drew.cell? ⟨b2, o2 + i * 4 + 3, none⟩ = some (.slice A2' m2 d2) := hc2 3 (by decide)
      obtain ⟨u0, u1, u2, u3, _, _, _, _⟩ := cells4 (show wr.drew.heap[F]? = _ from hx)
      obtain ⟨s0, s1, s2, s3, _, _, _, _⟩ := cells4 (show wr.drew.heap[F + 1]? = _ from hy)
      have hIh : Calls _ _ _ wr.drew _ := ih k' t' a' kids' A1' A2' m1 m2 d1 d2 (by have := HM.out.1; omega) hfitE K1 K2 wr.drew (hrE1.under (Below.drew (Below.refl _ wr))) (hrE2.under (Below.drew (Below.refl _ wr)))
      have HA := Lib.hid (And.intro hx (And.intro hy (And.intro hra (And.intro hrb hbb))))
      have HWI : Hid (IntKind.i64.wrap ((i : Int) + 1) = (i : Int) + 1 ∧ wrap64 ((i : Int) + 1) = (i : Int) + 1) := ⟨wrapK_le (by omega) (by have := HM.out.2.1; omega), wrap6_le (by omega) (by have := HM.out.2.1; omega)⟩
      clear hmem hsz hsz2 hdr hc1 hc2 hrE1 hrE2 hra hrb hx hy hbb hfitE hnk
      go_wp2_with fail
      go_region_with (first | (go_at_call 14; refine hIh.mono ?_; rintro e w5 ⟨rfl, hb5⟩))
      all_goals
        have hS5 : SameR kids K1 K2 k t a (some ⟨b1, o1, none⟩) (some ⟨b2, o2, none⟩) n2 c1 c2 F w w5 :=
          ⟨blk_below (show wr.drew.heap[F]? = _ from HA.out.1) hb5 (blk_lt HA.out.1), blk_below (show wr.drew.heap[F + 1]? = _ from HA.out.2.1) hb5 (blk_lt HA.out.2.1), HA.out.2.2.1.under ((Below.drew (Below.refl _ wr)).trans hb5), HA.out.2.2.2.1.under ((Below.drew (Below.refl _ wr)).trans hb5), HA.out.2.2.2.2.trans ((Below.drew (Below.refl _ wr)).trans (hb5.mono (by have := blk_lt HA.out.1; show F ≤ wr.heap.size; omega)))⟩
        have hwi := HWI.out.1
        have hwi2 := HWI.out.2
        have H5 := Lib.hid hS5
        clear hS5 hb5
        go_wp2_with fail
        exact ⟨⟨i + 1, rfl, hi, H5.out⟩, round_less hi⟩
    · have hi' : ¬ ((i : Int) < (n2 : Int)) := by omega
      have HB := Lib.hid hbb
      clear hra hrb hbb
      go_wp2_with fail
      go_ret
      exact ⟨rfl, by first | exact HB.out | (rw [hF]; exact HB.out)⟩
theorem same_spec : ∀ m, SameSpec m
  | 0 => fun _ _ _ _ _ _ _ _ _ _ h => by omega
  | m + 1 => same_step m (same_spec m)
/-- A tree and a fault, newly laid. -/
abbrev laid2 (w : World) (kd : Int) (tt ta : Bs) (A : Option Addr) (n c : Nat) (y a : Int) : World := (w.alloc (.cells #[.int .i64 kd, St tt, St ta, .slice A n c] 24)).alloc (.cells #[.int .i64 y, .int .i64 a] 31)
theorem laid2_facts (w : World) (kd : Int) (tt ta : Bs) (A : Option Addr) (n c : Nat) (y a : Int) (X : Nat) (hX : w.heap.size = X) :
    (laid2 w kd tt ta A n c y a).heap[X]? = some (.cells #[.int .i64 kd, St tt, St ta, .slice A n c] 24) ∧ (laid2 w kd tt ta A n c y a).heap[X + 1]? = some (.cells #[.int .i64 y, .int .i64 a] 31) ∧
      Below X w (laid2 w kd tt ta A n c y a) ∧ (laid2 w kd tt ta A n c y a).heap.size = X + 2 := by
  subst hX
  exact ⟨blk_alloc (blk_new _ _), blk_new1 _ _ _, ((Below.refl _ _).alloc (Nat.le_refl _) _).alloc (by simp) _, by simp⟩

/-- What could be read can still be read: all its rows lie in old blocks. -/
theorem See.old {w w' : World} {K : Nat → Prop} {ts : List T} {xs : List Value} (h : See w K ts xs) (hb : Below w.heap.size w w') : See w' (fun b => b < w'.heap.size) ts xs :=
  h.keep (fun b hl _ => hb.block b hl) fun b hl _ => Nat.lt_of_lt_of_le hl hb.size
end Go.Proofs.YtbmonfcahhhdeaaGreatDoor
