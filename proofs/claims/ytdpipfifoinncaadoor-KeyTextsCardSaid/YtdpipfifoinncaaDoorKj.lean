import Derived.Test.YtdpipfifoinncaaDoorKi
namespace Go.Proofs.YtdpipfifoinncaaDoor
open Go.RowKit
set_option linter.unusedVariables false

theorem Row_any {w : World} {A : Option Addr} {cap : Nat} {l : List V} (hl : l.length ≤ 9223372036854775807) (hV : VAt w A l) :
    Calls Tryd.prog 17 #[.slice A l.length cap] w fun e w' => e = .returned (.tuple #[.string (bs (rowE l).1), .int .i64 (rowE l).2]) ∧ Below w.heap.size w w' := by
  by_cases h : l.length < 1 ∨ 4 < l.length
  · have : rowE l = ([], 111) := by unfold rowE; rw [if_pos h]
    rw [this]
    exact Row_bad h hl
  · exact Row_good (by omega) (by omega) hV
/-! ### Values that one owns -/
def vcells (v : V) : List Value := [.int .i64 v.kind, .int .i64 v.n, .string v.s]
theorem vc_len (l : List V) : (l.flatMap vcells).length = l.length * 3 := by
  induction l with
  | nil => rfl
  | cons a r ih => simp only [List.flatMap_cons, List.length_append, List.length_cons, ih, vcells, List.length_nil]; omega
theorem vc_get : ∀ (l : List V) (k j : Nat) (hk : k < l.length) (hj : j < 3), (l.flatMap vcells)[k * 3 + j]? = (vcells l[k])[j]?
  | a :: r, 0, j, hk, hj => by
    simp only [List.flatMap_cons, Nat.zero_mul, Nat.zero_add, List.getElem_cons_zero]
    rw [List.getElem?_append_left (by simpa [vcells] using hj)]
  | a :: r, k + 1, j, hk, hj => by
    have ih := vc_get r k j (by simpa using hk) hj
    simp only [List.flatMap_cons, List.getElem_cons_succ]
    rw [List.getElem?_append_right (by simp [vcells]; omega)]
    rw [← ih]
    congr 1
    simp [vcells]
    omega
theorem vc_one (l : List V) : ∀ u ∈ l.flatMap vcells, u.oneCell' = true := by
  intro u hu
  obtain ⟨a, _, hu⟩ := List.mem_flatMap.1 hu
  simp [vcells] at hu
  rcases hu with rfl | rfl | rfl <;> rfl
theorem add_plain' (g n : Nat) : (⟨g, 0, none⟩ : Addr).add n = ⟨g, n, none⟩ := by unfold Addr.add; split <;> simp_all

/-- Values of which one owns the row. -/
def VOwn (w : World) (t : TypeId) (B : Nat) (v : Value) (l : List V) : Prop := w.ownsRow B t 3 v l.length (l.flatMap vcells)
theorem VOwn.at_ {w : World} {t : TypeId} {B : Nat} {A : Option Addr} {n c : Nat} {l : List V} (h : VOwn w t B (.slice A n c) l) : VAt w A l := fun k hk => by
  have hc := fun j (hj : j < 3) => vc_get l k j hk hj
  obtain ⟨hl, h2⟩ := h
  rcases h2 with ⟨h2, h0⟩ | ⟨g, cap, cur, h2, hB, hh, r⟩
  · omega
  · simp only [Value.slice.injEq] at h2
    obtain ⟨rfl, rfl, rfl⟩ := h2
    have ho : w.ownsRow B t 3 (.slice (some ⟨g, 0, none⟩) l.length c) l.length (l.flatMap vcells) := ⟨hl, .inr ⟨g, c, cur, rfl, hB, hh, r⟩⟩
    have hk3 : k * 3 + 2 < l.length * 3 := by omega
    refine ⟨⟨g, 0, none⟩, rfl, lt_of_block hh, ?_, ?_, ?_⟩
    · rw [add_plain', ho.cellAt _ (by omega)]; exact hc 0 (by omega)
    · rw [add_plain']; show w.cell? ⟨g, k * 3 + 1, none⟩ = _; rw [ho.cellAt _ (by omega)]; exact hc 1 (by omega)
    · rw [add_plain']; show w.cell? ⟨g, k * 3 + 2, none⟩ = _; rw [ho.cellAt _ (by omega)]; exact hc 2 (by omega)
theorem VOwn.below {w w' : World} {t : TypeId} {B : Nat} {v : Value} {l : List V} (h : VOwn w t B v l) (hb : Below w.heap.size w w') : VOwn w' t B v l := by
  obtain ⟨hl, h2 | ⟨g, cap, cur, rfl, hg, hh, r⟩⟩ := h
  · exact ⟨hl, .inl h2⟩
  · exact ⟨hl, .inr ⟨g, cap, cur, rfl, hg, (hb.block g (lt_of_block hh)).trans hh, r⟩⟩
theorem VOwn.only {w w' : World} {t T : TypeId} {B b : Nat} {v : Value} {l : List V} {cs : Array Value} (h : VOwn w t B v l) (hg : w.grownBy w' (some b)) (hb : w.heap[b]? = some (.cells cs T (0, 0))) (ht : T ≠ t) : VOwn w' t B v l := by
  refine World.ownsRow.kept h hg (.inr fun e => ?_)
  obtain ⟨hl, ⟨rfl, _⟩ | ⟨g, cap, cur, rfl, hg', hh, r⟩⟩ := h
  · simp [Value.ownBlock] at e
  · simp only [Value.ownBlock, Option.some.injEq] at e
    subst e
    rw [hh] at hb
    simp at hb
    exact ht hb.2.symm
theorem VOwn.slice {w : World} {t : TypeId} {B : Nat} {v : Value} {l : List V} (h : VOwn w t B v l) : ∃ ao c, v = .slice ao l.length c := own_slice h
theorem vc_snoc (l : List V) (v : V) : l.flatMap vcells ++ vcells v = (l ++ [v]).flatMap vcells := by simp

/-! ### What a row's bytes say -/
def rdVal (s : ByteArray) (p : Nat) (e : Int) : Nat × Int × V :=
  if (numS s p e 1).2.2 = 1 then
    ((numS s (numS s p e 1).1 (numS s p e 1).2.1 8).1, (numS s (numS s p e 1).1 (numS s p e 1).2.1 8).2.1, ⟨1, wrap64 (numS s (numS s p e 1).1 (numS s p e 1).2.1 8).2.2, ⟨#[]⟩⟩)
  else if (numS s p e 1).2.2 = 2 then
    ((bytesS s (numS s (numS s p e 1).1 (numS s p e 1).2.1 1).1 (numS s (numS s p e 1).1 (numS s p e 1).2.1 1).2.1 (numS s (numS s p e 1).1 (numS s p e 1).2.1 1).2.2).1,
     (bytesS s (numS s (numS s p e 1).1 (numS s p e 1).2.1 1).1 (numS s (numS s p e 1).1 (numS s p e 1).2.1 1).2.1 (numS s (numS s p e 1).1 (numS s p e 1).2.1 1).2.2).2.1,
     ⟨2, 0, bs (bytesS s (numS s (numS s p e 1).1 (numS s p e 1).2.1 1).1 (numS s (numS s p e 1).1 (numS s p e 1).2.1 1).2.1 (numS s (numS s p e 1).1 (numS s p e 1).2.1 1).2.2).2.2⟩)
  else ((numS s p e 1).1, (numS s p e 1).2.1, ⟨(numS s p e 1).2.2, 0, ⟨#[]⟩⟩)
def rdLoop (s : ByteArray) : Nat → Nat → Int → List V → Nat × Int × List V
  | 0, p, e, out => (p, e, out)
  | n + 1, p, e, out => if e = 0 then rdLoop s n (rdVal s p e).1 (rdVal s p e).2.1 (out ++ [(rdVal s p e).2.2]) else (p, e, out)
def valsL (s : ByteArray) : Nat × Int × List V := rdLoop s (numS s 0 0 1).2.2 (numS s 0 0 1).1 (numS s 0 0 1).2.1 []
def valsE (s : ByteArray) : List V × Int :=
  if (valsL s).2.1 ≠ 0 ∨ (valsL s).1 ≠ s.size ∨ (rowE (valsL s).2.2).2 ≠ 0 ∨ bs (rowE (valsL s).2.2).1 ≠ s then ([], 6) else ((valsL s).2.2, 0)

theorem num_le (s : ByteArray) (p : Nat) (e : Int) (K : Nat) (hp : p ≤ s.size) : (numS s p e K).1 ≤ s.size := by
  unfold numS; split
  · exact hp
  · split
    · exact hp
    · omega
theorem num_lt (s : ByteArray) (p : Nat) (e : Int) (K : Nat) : (numS s p e K).2.2 < 256 ^ K := by
  have : 0 < 256 ^ K := Nat.pow_pos (by omega)
  unfold numS; split
  · exact this
  · split
    · exact this
    · have := getN_lt (seg s p K)
      rw [seg_len s p K (by omega)] at this
      exact this
theorem bytes_le (s : ByteArray) (p : Nat) (e : Int) (n : Nat) (hp : p ≤ s.size) : (bytesS s p e n).1 ≤ s.size := by
  unfold bytesS; split
  · exact hp
  · split
    · exact hp
    · omega
theorem rdVal_le (s : ByteArray) (p : Nat) (e : Int) (hp : p ≤ s.size) : (rdVal s p e).1 ≤ s.size := by
  have h1 := num_le s p e 1 hp
  unfold rdVal; split
  · exact num_le _ _ _ _ h1
  · split
    · exact bytes_le _ _ _ _ (num_le _ _ _ _ h1)
    · exact h1
theorem rdLoop_facts (s : ByteArray) : ∀ (n p : Nat) (e : Int) (out : List V), p ≤ s.size → (rdLoop s n p e out).1 ≤ s.size ∧ (rdLoop s n p e out).2.2.length ≤ out.length + n
  | 0, p, e, out, hp => ⟨hp, by simp [rdLoop]⟩
  | n + 1, p, e, out, hp => by
    unfold rdLoop
    split
    · have := rdLoop_facts s n (rdVal s p e).1 (rdVal s p e).2.1 (out ++ [(rdVal s p e).2.2]) (rdVal_le s p e hp)
      refine ⟨this.1, ?_⟩
      have h2 := this.2
      rw [List.length_append] at h2
      simp at h2
      omega
    · exact ⟨hp, by simp⟩
theorem infoVal : (Tryd.prog.info? 23).map (fun i => (i.zero, i.size, i.bytes)) = some (some (.agg #[.int .i64 0, .int .i64 0, .string ⟨#[]⟩]), 3, 32) := by kernel_rfl
theorem infoRVal : (Tryd.prog.info? 27).map (fun i => (i.zero, i.size, i.bytes)) = some (some (.agg #[.int .i64 0, .int .i64 0, .string ⟨#[]⟩]), 3, 32) := by kernel_rfl
end Go.Proofs.YtdpipfifoinncaaDoor
