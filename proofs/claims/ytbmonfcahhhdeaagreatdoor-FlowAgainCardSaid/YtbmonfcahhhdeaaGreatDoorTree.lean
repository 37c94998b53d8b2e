/- Trees, and how they lie in the world; append of a row; the least number of which something is true. -/
import Derived.Test.YtbmonfcahhhdeaaGreatDoorLib
set_option linter.unusedVariables false
set_option linter.unusedSimpArgs false
namespace Go.Proofs.YtbmonfcahhhdeaaGreatDoor
open Go.RowKit

/-- A tree. -/
inductive T where
  | mk (kind : Int) (text anchor : Bs) (kids : List T)
def T.kind : T → Int | .mk k _ _ _ => k
def T.text : T → Bs | .mk _ t _ _ => t
def T.anchor : T → Bs | .mk _ _ a _ => a
def T.kids : T → List T | .mk _ _ _ l => l

/-- A tree lies in a world: all its blocks are in K. -/
inductive Rep (w : World) (K : Nat → Prop) : List T → List Value → Prop
  | nil : Rep w K [] []
  | cons (k : Int) (t a : Bs) (kids : List T) (v : Value) (xs : List Value) (ts : List T) (ys : List Value) (base : Nat)
      (ho : w.ownsRow base 24 4 v kids.length xs) (hK : ∀ b, v.ownBlock = some b → K b) (hk : Rep w K kids xs) (hr : Rep w K ts ys) :
      Rep w K (.mk k t a kids :: ts) (.int .i64 k :: St t :: St a :: v :: ys)
/-- One tree, as a value. -/
def Rep1 (w : World) (K : Nat → Prop) (t : T) (v : Value) : Prop := ∃ c0 c1 c2 c3, v = .agg #[c0, c1, c2, c3] ∧ Rep w K [t] [c0, c1, c2, c3]
theorem Rep.append {w : World} {K : Nat → Prop} {ts us : List T} {xs ys : List Value} (h : Rep w K ts xs) (h2 : Rep w K us ys) : Rep w K (ts ++ us) (xs ++ ys) := by
  induction h with
  | nil => exact h2
  | cons k t a kids v xs ts ys base ho hK hk hr _ ih => exact .cons k t a kids v xs _ _ base ho hK hk ih
theorem Rep.len {w : World} {K : Nat → Prop} {ts : List T} {xs : List Value} (h : Rep w K ts xs) : xs.length = ts.length * 4 := by
  induction h with
  | nil => rfl
  | cons k t a kids v xs ts ys base ho hK hk hr _ ih => simp [ih]; omega
/-- What turns no block of K leaves a tree as it is; the blocks it stands in are old ones. -/
theorem Rep.keep {w w' : World} {K K' : Nat → Prop} {ts : List T} {xs : List Value} (h : Rep w K ts xs)
    (hb : ∀ b, b < w.heap.size → K b → w'.heap[b]? = w.heap[b]?) (hK : ∀ b, b < w.heap.size → K b → K' b) : Rep w' K' ts xs := by
  induction h with
  | nil => exact .nil
  | cons k t a kids v xs ts ys base ho hv hk hr ih1 ih2 =>
    refine .cons k t a kids v xs ts ys base ?_ (fun b hb' => hK b (own_lt ho b hb') (hv b hb')) ih1 ih2
    obtain ⟨h1, h2⟩ := ho
    refine ⟨h1, ?_⟩
    rcases h2 with h2 | ⟨g, cap, cur, rfl, hg, hh, r⟩
    · exact .inl h2
    · exact .inr ⟨g, cap, cur, rfl, hg, (hb g (blk_lt hh) (hv g rfl)).trans hh, r⟩
theorem Rep.under {w w' : World} {K : Nat → Prop} {ts : List T} {xs : List Value} (h : Rep w K ts xs) (hb : Below w.heap.size w w') : Rep w' K ts xs :=
  h.keep (fun b hl _ => hb.block b hl) fun _ _ h => h
theorem Rep.one {w : World} {K : Nat → Prop} {ts : List T} {xs : List Value} (h : Rep w K ts xs) : ∀ u ∈ xs, u.oneCell' = true := by
  induction h with
  | nil => simp
  | cons k t a kids v xs ts ys base ho hv hk hr ih1 ih2 =>
    intro u hu
    obtain ⟨A, c, rfl⟩ := own_slice ho
    simp only [List.mem_cons] at hu
    rcases hu with rfl | rfl | rfl | rfl | hu
    · rfl
    · rfl
    · rfl
    · rfl
    · exact ih2 u hu

/-- The least number of which something is true. -/
theorem least_ex (R : Nat → Prop) : ∀ (n : Nat), R n → ∃ m, R m ∧ ∀ k, R k → m ≤ k := by
  intro n
  induction n using Nat.strongRecOn with
  | ind n ih =>
    intro hn
    by_cases h : ∃ k, k < n ∧ R k
    · obtain ⟨k, hk, hr⟩ := h
      exact ih k hk hr
    · exact ⟨n, hn, fun k hk => Nat.le_of_not_lt fun hlt => h ⟨k, hlt, hk⟩⟩
open Classical in
noncomputable def least (R : Nat → Prop) : Nat := if h : ∃ n, R n then Classical.choose (least_ex R _ (Classical.choose_spec h)) else 0
theorem least_spec {R : Nat → Prop} (h : ∃ n, R n) : R (least R) := by
  unfold least
  rw [dif_pos h]
  exact (Classical.choose_spec (least_ex R _ (Classical.choose_spec h))).1
theorem least_le {R : Nat → Prop} {n : Nat} (h : R n) : least R ≤ n := by
  unfold least
  rw [dif_pos ⟨n, h⟩]
  exact (Classical.choose_spec (least_ex R _ (Classical.choose_spec ⟨n, h⟩))).2 n h

section
variable {P : Program} {ops : Array Oper} {rest : List Oper} {o : Oper} {a : Act} {Q : Exit → Act → World → Prop}
/-- append of a row that lies in a block of its own to a row of the call's own, or to nil. -/
theorem wp_appN {w : World} (base : Nat) (t e : TypeId) (z : Value) (size bytes : Nat) (hgd : o.guard = none) (s x : Operand)
    (ho : o.op = .call { callee := .builtin .append, args := #[s, x], argTypes := #[t, t] })
    (ht : P.underlying t = some (.slice e)) (hinfo : (P.info? e).map (fun i => (i.zero, i.size, i.bytes)) = some (some z, size, bytes)) (hz : z.cells.size = size) (hs0 : 0 < size) (hb0 : 0 < bytes)
    (v : Value) (n m b : Nat) (xs ys : List Value) (hs : a.eval s = v) (hx : a.eval x = .slice (some ⟨b, 0, none⟩) m m) (hys : ys.length = m * size) (h1 : ∀ u ∈ ys, u.oneCell' = true)
    (hb : w.heap[b]? = some (.cells ys.toArray e))
    (HO : w.ownsRow base e size v n xs) (hbase : base ≤ w.heap.size) (hl : (n + m) * bytes ≤ 140737488355328)
    (h : ∀ A c w1, w1.ownsRow base e size (.slice A (n + m) c) (n + m) (xs ++ ys) → w.grownBy w1 v.ownBlock → ((Value.slice A (n + m) c).ownBlock = v.ownBlock ∨ (Value.slice A (n + m) c).ownBlock = some w.heap.size) → wpList P ops Q rest (a.put o.dst (.slice A (n + m) c)) w1) :
    wpList P ops Q (o :: rest) a w := by
  obtain ⟨i0, hi, hzz⟩ := Option.map_eq_some_iff.1 hinfo
  simp only [Prod.mk.injEq] at hzz
  obtain ⟨hz0, hz1, hz2⟩ := hzz
  have hlen : n + m ≤ 140737488355328 := Nat.le_trans (Nat.le_mul_of_pos_right _ hb0) hl
  refine wpList_append_own_at (w := w) hgd s x t ho base e i0 z size bytes ht hi hz0 hz1 hz2 hz hs0 v n xs hs HO ⟨b, 0, none⟩ m m ys hx hys
    (World.news_of_block (cs := ys.toArray) (t := e) (fr := (0, 0)) hb) h1 (by simp only [maxLen]; omega) hl hbase ?_
  intro v1 w1 hown hg _ hat
  obtain ⟨A, c', rfl⟩ := own_slice hown
  exact h A c' w1 hown hg hat
end

end Go.Proofs.YtbmonfcahhhdeaaGreatDoor
