import Derived.Test.YtcdlplbccblbaaaGreatQi
namespace Go.Proofs.YtcdlplbccblbaaaGreat
open Go.RowKit
set_option linter.unusedVariables false
set_option linter.unusedSimpArgs false

/-! ### Who blocks whom, in the reference -/
/-- How many stand ahead of x, by p. -/
def insAt (p : Int → Int → Bool) (l : List Int) (x : Int) : Nat := (l.takeWhile fun y => p y x).length
def insI (p : Int → Int → Bool) (l : List Int) (x : Int) : List Int := l.take (insAt p l x) ++ [x] ++ l.drop (insAt p l x)
def ltI (y x : Int) : Bool := decide (y < x)
def gtI (y x : Int) : Bool := decide (y > x)
def rblkTo (q : List Ak) (m : Nat) : Nat → List Int
  | 0 => []
  | k + 1 => if k = m then rblkTo q m k else if blkA (q.getD k ak0) (q.getD m ak0) k m = true then insI ltI (rblkTo q m k) (q.getD k ak0).tx else rblkTo q m k
def rblkQ (q : List Ak) (tx : Int) : List Int := match q.findIdx? fun a => a.tx == tx with
  | none => []
  | some m => rblkTo q m q.length
def rblkM (M : List (Nm × List Ak)) (tx : Int) : List Int := match forM M tx with
  | none => []
  | some n => rblkQ (qL M n) tx
theorem insI_len (p : Int → Int → Bool) (l : List Int) (x : Int) : (insI p l x).length = l.length + 1 := by
  have h : insAt p l x ≤ l.length := by unfold insAt; exact (List.takeWhile_sublist _).length_le
  unfold insI
  rw [List.length_append, List.length_append, List.length_take, List.length_drop]
  simp
  omega
theorem rblkTo_len (q : List Ak) (m k : Nat) : (rblkTo q m k).length ≤ k := by
  induction k with
  | zero => simp [rblkTo]
  | succ k ih =>
    unfold rblkTo
    split
    · omega
    · split
      · rw [insI_len]; omega
      · omega
theorem insAt_le (p : Int → Int → Bool) (l : List Int) (x : Int) : insAt p l x ≤ l.length := by unfold insAt; exact (List.takeWhile_sublist _).length_le
theorem insAt_lt {p : Int → Int → Bool} : ∀ {l : List Int} {x : Int} {j : Nat} (hj : j < l.length), j < insAt p l x → p l[j] x = true
  | y :: l, x, j, hj, h => by
    unfold insAt at h
    rw [List.takeWhile_cons] at h
    split at h
    · rename_i hy
      cases j with
      | zero => exact hy
      | succ j => exact insAt_lt (l := l) (j := j) (by simpa using hj) (by unfold insAt; simpa using h)
    · simp at h
theorem insAt_at {p : Int → Int → Bool} : ∀ {l : List Int} {x : Int} (h : insAt p l x < l.length), p l[insAt p l x] x = false
  | [], x, h => by simp [insAt] at h
  | y :: l, x, h => by
    by_cases hy : p y x = true
    · have e : insAt p (y :: l) x = insAt p l x + 1 := by unfold insAt; rw [List.takeWhile_cons, if_pos hy]; rfl
      have h2 : insAt p l x < l.length := by rw [e] at h; simpa using h
      have := insAt_at h2
      simp only [e, List.getElem_cons_succ]
      exact this
    · have e : insAt p (y :: l) x = 0 := by unfold insAt; rw [List.takeWhile_cons, if_neg hy]; rfl
      simp only [e, List.getElem_cons_zero]
      simpa using hy
theorem insAt_eq {p : Int → Int → Bool} {l : List Int} {x : Int} {j : Nat} (hj : j ≤ insAt p l x) (h : ∀ (h : j < l.length), p l[j] x = false) : j = insAt p l x := by
  rcases Nat.lt_or_ge j (insAt p l x) with h1 | h1
  · have h2 : j < l.length := Nat.lt_of_lt_of_le h1 (insAt_le p l x)
    have := insAt_lt h2 h1
    rw [h h2] at this
    cases this
  · omega
theorem insAt_step {p : Int → Int → Bool} {l : List Int} {x : Int} {j : Nat} (hj : j ≤ insAt p l x) (hl : j < l.length) (h : p l[j] x = true) : j + 1 ≤ insAt p l x := by
  rcases Nat.lt_or_ge j (insAt p l x) with h1 | h1
  · exact h1
  · have e : j = insAt p l x := by omega
    subst e
    rw [insAt_at hl] at h
    cases h

theorem iv_take (l : List Int) (n : Nat) : (l.take n).map iv = (l.map iv).take n := by rw [List.map_take]
theorem SrcAt.takeI {w : World} {sa : Option Addr} {l : List Int} (h : SrcAt w sa (l.map iv)) (n : Nat) : SrcAt w sa ((l.take n).map iv) := by
  intro j u hj p hp
  rw [List.map_take] at hj
  refine h j u ?_ p hp
  rw [List.getElem?_take] at hj
  split at hj
  · exact hj
  · simp at hj
theorem SrcAt.dropI {w : World} {g : Nat} {l : List Int} (h : SrcAt w (some ⟨g, 0, none⟩) (l.map iv)) (n : Nat) : SrcAt w (some ⟨g, n, none⟩) ((l.drop n).map iv) := by
  intro j u hj p hp
  rw [List.map_drop, List.getElem?_drop] at hj
  obtain rfl : (⟨g, n, none⟩ : Addr) = p := by simpa using hp
  have := h _ u hj _ rfl
  rw [show (⟨g, 0, none⟩ : Addr).add (n + j) = ⟨g, n + j, none⟩ by unfold Addr.add; split <;> simp_all] at this
  rw [show (⟨g, n, none⟩ : Addr).add j = ⟨g, n + j, none⟩ by unfold Addr.add; split <;> simp_all]
  exact this
theorem IO.grown {w w' : World} {base : Nat} {v : Value} {l : List Int} (h : IO w base v l) {row : Option Nat} (hg : w.grownBy w' row) (hne : ∀ k, some k = v.ownBlock → some k ≠ row) : IO w' base v l := by
  rcases h with ⟨h1, h2 | ⟨g, cap, cur, rfl, hg0, hb, r⟩⟩
  · exact ⟨h1, .inl h2⟩
  · exact ⟨h1, .inr ⟨g, cap, cur, rfl, hg0, (hg.block g (Array.getElem?_eq_some_iff.1 hb).1 (hne g rfl)).trans hb, r⟩⟩
theorem IO.some {w : World} {base : Nat} {v : Value} {l : List Int} (h : IO w base v l) (hl : 0 < l.length) : ∃ g c, v = .slice (Option.some ⟨g, 0, none⟩) l.length c ∧ base ≤ g ∧ g < w.heap.size := by
  obtain ⟨a, c, rfl, _⟩ := h.form
  obtain ⟨g, rfl, -, -, -, h1, h2, -⟩ := h.cell hl
  exact ⟨g, c, rfl, h1, h2⟩

theorem IO.far {w : World} {base : Nat} {v : Value} {l : List Int} (h : IO w base v l) {k : Nat} (hk : k < base) : Option.some k ≠ v.ownBlock := by
  rcases h.2 with ⟨rfl, _⟩ | ⟨g, cap, cur, rfl, hg, _⟩
  · simp [Value.ownBlock]
  · intro e
    obtain rfl : k = g := by simpa [Value.ownBlock] using e
    omega
theorem together_q (a b : Int) (w : World) : Calls Tryz.prog 47 #[.int .i64 a, .int .i64 b] w fun e w' => e = .returned (.bool (compat a b)) ∧ w' = w :=
  (together_any a b w).mono fun _ _ ⟨h1, h2⟩ => ⟨h1, h2.symm⟩

set_option maxRecDepth 100000 in
set_option maxHeartbeats 4000000 in
theorem rhasn_any {w : World} {v : Value} {l : List Int} (h : IO w 0 v l) (x : Int) :
    Calls Tryz.prog 67 #[v, .int .i64 x] w fun e w' => e = .returned (.bool (decide (x ∈ l))) ∧ Below w.heap.size w w' := by
  obtain ⟨A, c, rfl, h1, h2⟩ := h.form
  unfold maxLen at h2
  go_enter Tryz.func67, Tryz.ntmps67
  go_wp2
  go_loopw [5] (fun i wr => ∃ k : Nat, k ≤ l.length ∧ i = .int .i64 k ∧ Below w.heap.size w wr ∧ Hid (∀ j (hj : j < l.length), j < k → l[j] ≠ x)) (fun i _ => l.length - (intOf i).toNat)
  case atStart => exact ⟨0, Nat.zero_le _, rfl, Below.refl _ _, Lib.hid (fun j _ h => by omega)⟩
  case round =>
    obtain ⟨k, hk, rfl, hB, hno⟩ := hrel
    by_cases hlt2 : k < l.length
    · obtain ⟨g, rfl, -, -, -, -, -, c0⟩ := (h.below hB).cell hlt2
      by_cases htx : l[k] = x
      · have hbe : (l[k] == x) = true := by simpa using htx
        have HR : Hid (decide (x ∈ l) = true) := Lib.hid (decide_eq_true (htx ▸ List.getElem_mem hlt2))
        clear htx
        go_wp2_with fail
        go_ret
        exact ⟨ret_bool HR.out.symm, hB⟩
      · have hbe : (l[k] == x) = false := by simpa using htx
        have HN : Hid (∀ j (hj : j < l.length), j < k + 1 → l[j] ≠ x) := Lib.hid (fun j hj hjk => by
          rcases Nat.lt_or_ge j k with h' | h'
          · exact hno.out j hj h'
          · obtain rfl : j = k := by omega
            exact htx)
        clear htx
        go_wp2_with fail
        go_roundw
        case rel => exact ⟨k + 1, by omega, by go_num, hB, HN⟩
        case measure => simp [intOf]; omega
    · obtain rfl : k = l.length := by omega
      have HR : Hid (decide (x ∈ l) = false) := Lib.hid (decide_eq_false (fun hm => by
        obtain ⟨j, hj, e⟩ := List.getElem_of_mem hm
        exact hno.out j hj hj e))
      go_wp2_with fail
      go_ret
      exact ⟨ret_bool HR.out.symm, hB⟩
theorem src_blk {w : World} {g : Nat} {x : Int} (h : Blk w g 3 #[.int .i64 x]) : SrcAt w (some ⟨g, 0, none⟩) ([x].map iv) := by
  intro j u hj p hp
  obtain rfl : (⟨g, 0, none⟩ : Addr) = p := by simpa using hp
  rw [show (⟨g, 0, none⟩ : Addr).add j = ⟨g, j, none⟩ by unfold Addr.add; split <;> simp_all, h.cell j]
  have : ([x].map iv)[j]? = (#[.int .i64 x] : Array Value)[j]? := by simp [iv]
  rw [← this]
  exact hj
end Go.Proofs.YtcdlplbccblbaaaGreat
