import Derived.Test.YtjonmcbglcidhaaGreatKf
namespace Go.Proofs.YtjonmcbglcidhaaGreat
open Go.RowKit
set_option linter.unusedVariables false

/-! ### Rows of values -/
/-- The values l lie at A. -/
structure At1 (w : World) (A : Option Addr) (k : Nat) (v : V) (ad : Addr) : Prop where
  at_ : A = some ad
  lt : ad.block < w.heap.size
  c0 : w.cell? (ad.add (k * 3)) = some (.int .i64 v.kind)
  c1 : w.cell? ⟨(ad.add (k * 3)).block, (ad.add (k * 3)).off + 1, none⟩ = some (.int .i64 v.n)
  c2 : w.cell? ⟨(ad.add (k * 3)).block, (ad.add (k * 3)).off + 2, none⟩ = some (.string v.s)
def VAt (w : World) (A : Option Addr) (l : List V) : Prop := ∀ k (h : k < l.length), ∃ ad, At1 w A k l[k] ad
theorem block_of_add (a : Addr) (n : Nat) : (a.add n).block = a.block := by unfold Addr.add; split <;> rfl
theorem At1.below {w w' : World} {A : Option Addr} {k : Nat} {v : V} {ad : Addr} (h : At1 w A k v ad) (hb : Below w.heap.size w w') : At1 w' A k v ad := by
  have := hb.size
  have hl := h.lt
  exact ⟨h.at_, by omega, (hb.cell (by rw [block_of_add]; exact h.lt)).trans h.c0, (hb.cell (by show (ad.add (k * 3)).block < _; rw [block_of_add]; exact h.lt)).trans h.c1, (hb.cell (by show (ad.add (k * 3)).block < _; rw [block_of_add]; exact h.lt)).trans h.c2⟩
theorem VAt.below {w w' : World} {A : Option Addr} {l : List V} (h : VAt w A l) (hb : Below w.heap.size w w') : VAt w' A l := fun k hk => by
  obtain ⟨ad, ha⟩ := h k hk
  exact ⟨ad, ha.below hb⟩

/-- A number as 64 bits. -/
def w64 (n : Int) : Nat := (n % 18446744073709551616).toNat
theorem w64_lt (n : Int) : w64 n < 18446744073709551616 := by unfold w64; omega
theorem w64_wrap (n : Int) : IntKind.u64.wrap n = (w64 n : Int) := by rw [IntKind.wrap_u64]; unfold w64; omega
def encV (v : V) : List UInt8 := putB (w64 v.kind) 1 ++ (if v.kind = 1 then putB (w64 v.n) 8 else if v.kind = 2 then putB v.s.size 1 ++ v.s.data.toList else [])
def rowB (l : List V) : List UInt8 := putB l.length 1 ++ l.flatMap encV
def rowE (l : List V) : List UInt8 × Int := if l.length < 1 ∨ 4 < l.length then ([], 111) else if l.all may then (if 60 < (rowB l).length then ([], 101) else (rowB l, 0)) else ([], 110)

theorem encV_len (v : V) (h : may v = true) : (encV v).length ≤ 22 := by
  unfold encV
  rw [List.length_append, putB_len]
  split
  · rw [putB_len]; omega
  · split
    · rename_i h1 h2
      have : v.s.size ≤ 20 := by
        unfold may at h
        rw [if_neg (by omega), if_neg h1, if_pos h2] at h
        simp at h
        exact h.2
      rw [List.length_append, putB_len, data_len]
      omega
    · simp

theorem Row_bad {w : World} {A : Option Addr} {n cap : Nat} (hn : n < 1 ∨ 4 < n) (hm : n ≤ 9223372036854775807) :
    Calls Tryz.prog 34 #[.slice A n cap] w fun e w' => e = .returned (.tuple #[.string ⟨#[]⟩, .int .i64 111]) ∧ Below w.heap.size w w' := by
  have hB := Below.refl w.heap.size w
  rcases hn with hn | hn
  · obtain rfl : n = 0 := by omega
    go_enter Tryz.func34, Tryz.ntmps34
    go_wp2
    go_ret2
    exact ⟨rfl, hB⟩
  · have h1 : decide ((n : Int) < 1) = false := by simp; omega
    have h2 : decide ((4 : Int) < (n : Int)) = true := by simp; omega
    go_enter Tryz.func34, Tryz.ntmps34
    go_wp2
    go_ret2
    exact ⟨rfl, hB⟩

end Go.Proofs.YtjonmcbglcidhaaGreat
