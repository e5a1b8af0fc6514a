import Derived.Test.YtdpipfifoinncaaDoorTc
import Derived.Test.YtdpipfifoinncaaDoorSh
namespace Go.Proofs.YtdpipfifoinncaaDoor
open Go.RowKit
set_option linter.unusedVariables false

/-- What the row's listed variables give, at a world. -/
structure Lays (w : World) : Prop where
  tab : Lib.TabIs Tryd.prog w "internal/strconv.uint64pow10" .u64 Lib.pow10Tab
  syn : ∃ tp p, w.var? Tryd.prog "strconv.ErrSyntax" = some #[.iface tp p]
  rng : ∃ tp p, w.var? Tryd.prog "strconv.ErrRange" = some #[.iface tp p]
theorem var_stays {w w' : World} {n : String} {cs : Array Value} (h : w.var? Tryd.prog n = some cs) (hb : Below w.heap.size w w') : w'.var? Tryd.prog n = some cs := by
  unfold World.var? at h ⊢
  cases hg : Tryd.prog.globalNamed n with
  | none => rw [hg] at h; simp at h
  | some g =>
    rw [hg] at h
    simp only [Option.bind_some] at h ⊢
    have hlt : g < w.heap.size := by
      rcases Nat.lt_or_ge g w.heap.size with x | x
      · exact x
      · rw [Array.getElem?_eq_none x] at h; simp at h
    rw [hb.block g hlt]
    exact h
theorem Lays.below {w w' : World} (h : Lays w) (hb : Below w.heap.size w w') : Lays w' :=
  ⟨var_stays h.tab hb, by obtain ⟨a, b, c⟩ := h.syn; exact ⟨a, b, var_stays c hb⟩, by obtain ⟨a, b, c⟩ := h.rng; exact ⟨a, b, var_stays c hb⟩⟩

theorem Format_any (n : Int) (w : World) (hL : Lays w) (hn : inR n) : Calls Tryd.prog 15 #[.int .i64 n, .int .i64 10] w fun e w' => e = .returned (.string (bs (Lib.itoa n))) ∧ Below w.heap.size w w' := by
  refine (Go.Proofs.Tryd.strconv_FormatInt_10 n hn.1 hn.2 w hL.tab).mono ?_
  rintro e w' ⟨rfl, k, os, rfl⟩
  exact ⟨rfl, ⟨rfl, rfl, rfl, by
    show w.heap.size ≤ (w.heap ++ os).size
    rw [Array.size_append]
    omega, fun i hi => by
    show (w.heap ++ os)[i]? = w.heap[i]?
    exact Array.getElem?_append_left hi⟩⟩
theorem ParseInt_ok (s : ByteArray) (n : Int) (w : World) (hs : s.size ≤ 281474976710656) (h : Lib.parseIntB 64 s.data.toList = .ok n) :
    Calls Tryd.prog 14 #[.string s, .int .i64 10, .int .i64 64] w fun e w' => e = .returned (.tuple #[.int .i64 n, .nilIface]) ∧ Below w.heap.size w w' := by
  refine (Go.Proofs.Tryd.strconv_ParseInt_10_at64_ok s (by omega) n h w).mono ?_
  rintro e w' ⟨rfl, rfl | ⟨t, rfl⟩⟩
  · exact ⟨rfl, Below.refl _ _⟩
  · exact ⟨rfl, Lib.bytesWorld_below _ _ _⟩
def BadParse (w : World) (e : Ending) (w' : World) : Prop := ∃ (m : Int) (T : TypeId) (p : Value), e = .returned (.tuple #[.int .i64 m, .iface T p]) ∧ Below w.heap.size w w'
theorem ParseInt_no (s : ByteArray) (w : World) (hL : Lays w) (hs : s.size ≤ 281474976710656) (h : ∀ n, Lib.parseIntB 64 s.data.toList ≠ .ok n) :
    Calls Tryd.prog 14 #[.string s, .int .i64 10, .int .i64 64] w (BadParse w) := by
  obtain ⟨t1, p1, hv1⟩ := hL.syn
  obtain ⟨t2, p2, hv2⟩ := hL.rng
  cases hp : Lib.parseIntB 64 s.data.toList
  · exact absurd hp (h _)
  · refine (Any.strconv_ParseInt_10_at64_syntax_var Go.Proofs.Tryd.laysC174 s hs hp t1 p1 w hv1).mono ?_
    rintro e w' ⟨N, rfl, _, _, hb⟩
    exact ⟨_, _, _, rfl, hb⟩
  · refine (Any.strconv_ParseInt_10_at64_range_var Go.Proofs.Tryd.laysC174 s hs hp t2 p2 w hv2).mono ?_
    rintro e w' ⟨N, rfl, _, _, hb⟩
    exact ⟨_, _, _, rfl, hb⟩
theorem Cut_yes (s : ByteArray) (w : World) (h : s.data.toList.head? = some 39) : Calls Tryd.prog 13 #[.string s, .string ⟨#[39]⟩] w fun e w' => e = .returned (.tuple #[.string (bs (s.data.toList.drop 1)), .bool true]) ∧ w = w' := by
  refine (Go.Proofs.Tryd.strings_CutPrefix s ⟨#[39]⟩ w).mono ?_
  rintro e w' ⟨rfl, rfl⟩
  have hp : Lib.hasPrefix s.data.toList [39] = true := by
    unfold Lib.hasPrefix
    cases hl : s.data.toList with
    | nil => rw [hl] at h; simp at h
    | cons c r => rw [hl] at h; simp at h; subst h; rfl
  refine ⟨?_, rfl⟩
  show Ending.returned (.tuple #[.string ⟨(Lib.trimPrefix s.data.toList [39]).toArray⟩, .bool (Lib.hasPrefix s.data.toList [39])]) = _
  rw [hp]
  unfold Lib.trimPrefix
  rw [hp]
  rfl
theorem Cut_no (s : ByteArray) (w : World) (h : s.data.toList.head? ≠ some 39) : Calls Tryd.prog 13 #[.string s, .string ⟨#[39]⟩] w fun e w' => e = .returned (.tuple #[.string s, .bool false]) ∧ w = w' := by
  refine (Go.Proofs.Tryd.strings_CutPrefix s ⟨#[39]⟩ w).mono ?_
  rintro e w' ⟨rfl, rfl⟩
  have hp : Lib.hasPrefix s.data.toList [39] = false := by
    unfold Lib.hasPrefix
    cases hl : s.data.toList with
    | nil => rfl
    | cons c r =>
      rw [hl] at h
      simp only [List.head?_cons, ne_eq, Option.some.injEq] at h
      simp [List.isPrefixOf]
      exact fun e => h e.symm
  refine ⟨?_, rfl⟩
  show Ending.returned (.tuple #[.string ⟨(Lib.trimPrefix s.data.toList [39]).toArray⟩, .bool (Lib.hasPrefix s.data.toList [39])]) = _
  rw [hp]
  unfold Lib.trimPrefix
  rw [hp]
  rfl

set_option maxRecDepth 100000 in
set_option maxHeartbeats 1600000 in
theorem Text_any (k n : Int) (s : ByteArray) (w : World) (hL : Lays w) (hn : inR n) (hs : s.size ≤ 9223372036854775000) :
    Calls Tryd.prog 6 #[.agg #[.int .i64 k, .int .i64 n, .string s]] w fun e w' => e = .returned (.string (bs (textE ⟨k, n, s⟩))) ∧ Below w.heap.size w w' := by
  have hB0 : Below w.heap.size w (w.alloc (.cells #[.int .i64 k, .int .i64 n, .string s] 23)) := (Below.refl _ _).alloc (Nat.le_refl _) _
  have hL1 := hL.below hB0
  have hF := Format_any n _ hL1 hn
  have HF := Lib.hid hF
  by_cases h1 : k = 1
  · subst h1
    clear hF
    go_enter Tryd.func6, Tryd.ntmps6
    go_wp2_with fail
    refine HF.out.mono ?_
    rintro e w1 ⟨rfl, hB1⟩
    go_wp2
    go_ret
    exact ⟨rfl, hB0.trans (hB1.mono (by simp))⟩
  · have q1 : (k == 1) = false := by simpa using h1
    by_cases h2 : k = 2
    · subst h2
      have ht : textE ⟨2, n, s⟩ = 39 :: s.data.toList := rfl
      have HT := Lib.hid ht
      clear hF ht
      go_enter Tryd.func6, Tryd.ntmps6
      go_wp2_with fail
      go_ret
      refine ⟨?_, hB0⟩
      rw [HT.out]
      exact congrArg (fun x => Ending.returned (.string x)) (bs_append [39] s.data.toList)
    · have q2 : (k == 2) = false := by simpa using h2
      have ht : textE ⟨k, n, s⟩ = [45] := by simp [textE, h1, h2]
      have HT := Lib.hid ht
      clear hF ht h1 h2
      go_enter Tryd.func6, Tryd.ntmps6
      go_wp2_with fail
      go_ret
      exact ⟨by rw [HT.out]; rfl, hB0⟩
set_option maxRecDepth 100000 in
set_option maxHeartbeats 1600000 in
theorem RText_any (k n : Int) (s : ByteArray) (w : World) (hn : inR n) (hs : s.size ≤ 9223372036854775000) :
    Calls Tryd.prog 11 #[.agg #[.int .i64 k, .int .i64 n, .string s]] w fun e w' => e = .returned (.string (bs (textE ⟨k, n, s⟩))) ∧ Below w.heap.size w w' := by
  have hB0 : Below w.heap.size w (w.alloc (.cells #[.int .i64 k, .int .i64 n, .string s] 27)) := (Below.refl _ _).alloc (Nat.le_refl _) _
  have hF := digits_any n (w.alloc (.cells #[.int .i64 k, .int .i64 n, .string s] 27)) hn
  have HF := Lib.hid hF
  by_cases h1 : k = 1
  · subst h1
    clear hF
    go_enter Tryd.func11, Tryd.ntmps11
    go_wp2_with fail
    refine HF.out.mono ?_
    rintro e w1 ⟨rfl, hB1⟩
    go_wp2
    go_ret
    exact ⟨rfl, hB0.trans (hB1.mono (by simp))⟩
  · have q1 : (k == 1) = false := by simpa using h1
    by_cases h2 : k = 2
    · subst h2
      have ht : textE ⟨2, n, s⟩ = 39 :: s.data.toList := rfl
      have HT := Lib.hid ht
      clear hF ht
      go_enter Tryd.func11, Tryd.ntmps11
      go_wp2_with fail
      go_ret
      refine ⟨?_, hB0⟩
      rw [HT.out]
      exact congrArg (fun x => Ending.returned (.string x)) (bs_append [39] s.data.toList)
    · have q2 : (k == 2) = false := by simpa using h2
      have ht : textE ⟨k, n, s⟩ = [45] := by simp [textE, h1, h2]
      have HT := Lib.hid ht
      clear hF ht h1 h2
      go_enter Tryd.func11, Tryd.ntmps11
      go_wp2_with fail
      go_ret
      exact ⟨by rw [HT.out]; rfl, hB0⟩
end Go.Proofs.YtdpipfifoinncaaDoor
