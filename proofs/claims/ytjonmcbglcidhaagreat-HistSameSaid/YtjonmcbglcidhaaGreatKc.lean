import Derived.Test.YtjonmcbglcidhaaGreatKb
namespace Go.Proofs.YtjonmcbglcidhaaGreat
open Go.RowKit
set_option linter.unusedVariables false

/-- A value. -/
structure V where
  kind : Int
  n : Int
  s : ByteArray
def vv (v : V) : Value := .agg #[.int .i64 v.kind, .int .i64 v.n, .string v.s]
def may (v : V) : Bool := if v.kind = 0 then v.n == 0 && v.s.toList.isEmpty else if v.kind = 1 then v.s.toList.isEmpty else if v.kind = 2 then v.n == 0 && decide (v.s.size ≤ 20) else false

set_option maxRecDepth 100000 in
theorem Check_any (k n : Int) (s : ByteArray) (w : World) :
    Calls Tryz.prog 37 #[.agg #[.int .i64 k, .int .i64 n, .string s]] w fun e w' => e = .returned (.int .i64 (if may ⟨k, n, s⟩ then 0 else 110)) ∧ Below w.heap.size w w' := by
  have hbel : Below w.heap.size w (w.alloc (.cells #[.int .i64 k, .int .i64 n, .string s] 26)) := (Below.refl _ _).alloc (Nat.le_refl _) _
  by_cases hk0 : k = 0
  · subst hk0
    by_cases hn : n = 0
    · subst hn
      cases he : s.toList.isEmpty
      · have hm : may ⟨0, 0, s⟩ = false := by simp [may, he]
        rw [hm]
        clear hm
        go_enter Tryz.func37, Tryz.ntmps37
        go_wp2
        go_ret
        exact ⟨rfl, hbel⟩
      · have hm : may ⟨0, 0, s⟩ = true := by simp [may, he]
        rw [hm]
        clear hm
        go_enter Tryz.func37, Tryz.ntmps37
        go_wp2
        go_ret
        exact ⟨rfl, hbel⟩
    · have hm : may ⟨0, n, s⟩ = false := by simp [may, hn]
      rw [hm]
      clear hm
      go_enter Tryz.func37, Tryz.ntmps37
      go_wp2
      go_ret
      exact ⟨rfl, hbel⟩
  · by_cases hk1 : k = 1
    · subst hk1
      cases he : s.toList.isEmpty
      · have hm : may ⟨1, n, s⟩ = false := by simp [may, he]
        rw [hm]
        clear hm
        go_enter Tryz.func37, Tryz.ntmps37
        go_wp2
        go_ret
        exact ⟨rfl, hbel⟩
      · have hm : may ⟨1, n, s⟩ = true := by simp [may, he]
        rw [hm]
        clear hm
        go_enter Tryz.func37, Tryz.ntmps37
        go_wp2
        go_ret
        exact ⟨rfl, hbel⟩
    · by_cases hk2 : k = 2
      · subst hk2
        by_cases hn : n = 0
        · subst hn
          by_cases hz : s.size ≤ 20
          · have hm : may ⟨2, 0, s⟩ = true := by simp [may, hz]
            have hz2 : decide ((s.size : Int) ≤ 20) = true := by simp; omega
            rw [hm]
            clear hm
            go_enter Tryz.func37, Tryz.ntmps37
            go_wp2
            go_ret
            exact ⟨rfl, hbel⟩
          · have hm : may ⟨2, 0, s⟩ = false := by simp [may, hz]
            have hz2 : decide ((s.size : Int) ≤ 20) = false := by simp; omega
            rw [hm]
            clear hm
            go_enter Tryz.func37, Tryz.ntmps37
            go_wp2
            go_ret
            exact ⟨rfl, hbel⟩
        · have hm : may ⟨2, n, s⟩ = false := by simp [may, hn]
          rw [hm]
          clear hm
          go_enter Tryz.func37, Tryz.ntmps37
          go_wp2
          go_ret
          exact ⟨rfl, hbel⟩
      · have hm : may ⟨k, n, s⟩ = false := by simp [may, hk0, hk1, hk2]
        rw [hm]
        clear hm
        go_enter Tryz.func37, Tryz.ntmps37
        go_wp2
        go_ret
        exact ⟨rfl, hbel⟩
end Go.Proofs.YtjonmcbglcidhaaGreat
