import Derived.Test.YtdpipfifoinncaaDoorKn
import Derived.Deep.AppendLies
namespace Go.Proofs.YtdpipfifoinncaaDoor
open Go.RowKit
set_option linter.unusedVariables false

theorem ref_next (l : List V) (k : Nat) (hk : k < l.length) : (l.take k).flatMap vcells ++ vcells l[k] = (l.take (k + 1)).flatMap vcells := by
  rw [List.take_succ_eq_append_getElem hk, ← vc_snoc]

set_option maxRecDepth 100000 in
set_option maxHeartbeats 1600000 in
theorem ref_any (l : List V) (A : Option Addr) (c : Nat) (w : World) (hl : l.length * 32 ≤ 140737488351232) (hA : VAt w A l) :
    Calls Tryd.prog 8 #[.slice A l.length c] w fun e w' => ∃ v, e = .returned v ∧ VOwn w' 27 w.heap.size v l ∧ Below w.heap.size w w' := by
  obtain ⟨i0, hi0, hz0, hz1, hz2⟩ := info_parts infoRVal
  obtain ⟨n, hn⟩ : ∃ n, n = l.length := ⟨_, rfl⟩
  rw [← hn] at hl ⊢
  have HN := Lib.hid hn
  clear hn
  go_enter Tryd.func8, Tryd.ntmps8
  go_wp2_with fail
  go_loopw [3, 4] (fun v i wr => ∃ k : Nat, k ≤ n ∧ i = .int .i64 k ∧ wr.ownsRow w.heap.size 27 3 v k ((l.take k).flatMap vcells) ∧ Below w.heap.size w wr) (fun _ i _ => n - (intOf i).toNat)
  case atStart => exact ⟨0, Nat.zero_le _, rfl, ⟨rfl, .inr ⟨w.heap.size, 0, #[], rfl, Nat.le_refl _, heap_alloc_new w _, Nat.le_refl _, by simp, rfl, rfl⟩⟩, (Below.refl _ _).alloc (Nat.le_refl _) _⟩
  case round =>
    obtain ⟨k, hk, rfl, hO, hBr⟩ := hrel
    obtain ⟨ao, cc, rfl⟩ := own_slice hO
    have hsz := hBr.size
    by_cases hlt : k < n
    · have hkl : k < l.length := by have := HN.out; omega
      obtain ⟨a, ha0⟩ := hA k hkl
      have ha := ha0.below hBr
      have hab := ha0.lt
      have hnx := ref_next l k hkl
      obtain ⟨⟨kd, m, s⟩, hv⟩ : ∃ v, v = l[k] := ⟨_, rfl⟩
      rw [← hv] at ha hnx
      obtain rfl := ha.at_
      have a0 := ha.c0
      have a1 := ha.c1
      have a2 := ha.c2
      have hi1 : (0 : Int) ≤ (k : Int) := by omega
      have hi2 : (k : Int) < (n : Int) := by omega
      have hOl := fun q hq => World.ownsRow.lt hO q hq
      have HOL := Lib.hid hOl
      have HV := Lib.hid hv
      have HNX := Lib.hid hnx
      have HO := Lib.hid hO
      have hbk := block_of_add a (k * 3)
      have HBK := Lib.hid hbk
      clear hv ha ha0 hnx hO hOl hbk
      go_wp2_with fail
      go_region_held3 (fun w' => w'.cell? (a.add (k * 3)) = some (.int .i64 kd) ∧ w'.cell? ⟨(a.add (k * 3)).block, (a.add (k * 3)).off + 1, none⟩ = some (.int .i64 m) ∧ w'.cell? ⟨(a.add (k * 3)).block, (a.add (k * 3)).off + 2, none⟩ = some (.string s))
        ((go_split_ands; refine ⟨?_, ?_, ?_⟩ <;> first
          | go_keep
          | (rw [World.cell?_of_block (hgrow.block _ (by simp [HBK.out]; omega) (fun e => by have := (HOL.out _ e.symm).1; simp [HBK.out] at this; omega))]; assumption)))
        ((refine step_append_lies _ (by rfl) _ _ _ (by rfl) w.heap.size 27 i0 _ 3 32 Tryd.underlying32 hi0 hz0 hz1 hz2 rfl (by omega) (.slice ao k cc) k ((l.take k).flatMap vcells) (by rfl) ((HO.out.alloc _).drew) ⟨wr.heap.size, 0, none⟩ 1 1 [.int .i64 kd, .int .i64 m, .string s] (by rfl) (by rfl) (World.news_of_block (cs := #[.int .i64 kd, .int .i64 m, .string s]) (t := 27) (fr := (0, 0)) (heap_alloc_new wr _)) (by simp [Value.oneCell']) (by omega) (by unfold maxLen; omega) (by omega) (by simp; omega) (wr.heap.size + 1) (by simp) ?_; intro gg cap w4 hown hgrow hat hltg))
      have hown2 : w4.ownsRow w.heap.size 27 3 (.slice (some ⟨gg, 0, none⟩) (k + 1) cap) (k + 1) ((l.take (k + 1)).flatMap vcells) := by rw [← HNX.out]; exact hown
      have hB4 : Below w.heap.size w w4 := ((hBr.alloc hsz _).drew).grown hgrow (by simp; omega) (fun q hq => (HOL.out q (by first | exact hq | exact hq.symm)).1)
      go_wp2_with fail
      go_roundw
      case rel => exact ⟨k + 1, by omega, by go_num, hown2, hB4⟩
      case measure => simp [intOf] <;> omega
    · obtain rfl : k = n := by omega
      have hkl := HN.out
      have hO' : VOwn wr 27 w.heap.size (.slice ao k cc) l := by
        unfold VOwn
        have := hO
        rw [hkl, List.take_length] at this
        rw [hkl]
        exact this
      clear hO hkl
      go_wp2
      go_ret
      exact ⟨_, rfl, hO', hBr⟩
end Go.Proofs.YtdpipfifoinncaaDoor
