import Derived.Test.YtjonmcbglcidhaaGreatRows
import Derived.WalkKit
import Derived.WalkSpells
import Derived.WalkLawsBesides
import Derived.Lib.Hide
import Derived.Lib.AppendStr
import Derived.Maps.AppendAt
import Derived.Laws.BytesArg
namespace Go.Proofs.YtjonmcbglcidhaaGreat
open Go.RowKit
set_option linter.unusedVariables false

/-! ### Bytes -/
def bs (l : List UInt8) : ByteArray := ⟨l.toArray⟩
theorem bs_size (l : List UInt8) : (bs l).size = l.length := rfl
theorem bs_append (l m : List UInt8) : bs l ++ bs m = bs (l ++ m) := by simp [bs, ByteArray.mk_append_mk]
theorem bs_of (s : ByteArray) : bs s.data.toList = s := rfl
theorem bs_inj {l m : List UInt8} (h : bs l = bs m) : l = m := by
  have := congrArg (fun s : ByteArray => s.data.toList) h
  simpa [bs] using this
def bcells (l : List UInt8) : List Value := l.map fun b => Value.int .u8 (b.toNat : Int)
theorem bcells_len (l : List UInt8) : (bcells l).length = l.length := by simp [bcells]
theorem strCells_bs (l : List UInt8) : Lib.strCells (bs l) = bcells l := rfl
theorem bcells_append (l m : List UInt8) : bcells l ++ bcells m = bcells (l ++ m) := by simp [bcells]
theorem bcells_one (l : List UInt8) : ∀ u ∈ bcells l, u.oneCell' = true := by
  intro u hu
  obtain ⟨b, _, rfl⟩ := List.mem_map.1 hu
  rfl

/-- The bytes of a number, the low one first. -/
def putB (n k : Nat) : List UInt8 := (List.range k).map fun j => UInt8.ofNat (n / 256 ^ j)
theorem putB_len (n k : Nat) : (putB n k).length = k := by simp [putB]
theorem putB_succ (n k : Nat) : putB n (k + 1) = putB n k ++ [UInt8.ofNat (n / 256 ^ k)] := by simp [putB, List.range_succ]
theorem ofNat_toNat (n : Nat) : ((UInt8.ofNat n).toNat : Int) = (n : Int) % 256 := by simp [UInt8.toNat_ofNat']

theorem infoU8 : (Tryz.prog.info? 5).map (fun i => (i.zero, i.size, i.bytes)) = some (some (.int .u8 0), 1, 1) := by kernel_rfl

/-- A row of bytes as a string. -/
theorem run_str {w : World} {base n : Nat} {v : Value} {l : List UInt8} (h : w.ownsRow base 5 1 v n (bcells l)) :
    (convert 118 9 v).run Tryz.prog w = .ok (.string (bs l)) w := by
  rcases h.2 with ⟨rfl, rfl⟩ | ⟨g, cap, cur, rfl, _, hb, _, _, _, ht⟩
  · have : l = [] := by
      have := h.1
      rw [bcells_len] at this
      exact List.eq_nil_of_length_eq_zero (by omega)
    subst this
    exact run_convert_bytes_nil w 118 5 Tryz.underlying118 Tryz.underlying5 0 0 9 Tryz.underlying9
  · have hl : l.length = n := by have := h.1; rw [bcells_len] at this; omega
    have := run_convert_bytes_arg (P := Tryz.prog) w 118 5 Tryz.underlying118 Tryz.underlying5 g 0 n cap (l.map fun b => (b.toNat : Int)) (by simp [hl]) (fun i hi => by
      rw [Nat.zero_add, h.cellAt i (by omega)]
      have : i < l.length := by omega
      simp [bcells, List.getD, this]) 9 Tryz.underlying9
    rw [this]
    refine congrArg (fun x => Result.ok (Value.string x) w) ?_
    unfold strOfNums bs
    refine congrArg (fun x : List UInt8 => (⟨x.toArray⟩ : ByteArray)) ?_
    rw [List.map_map]
    exact List.map_id'' (by intro b; simp) l

set_option maxRecDepth 100000 in
theorem Put_one (n : Nat) (w : World) (hn : n < 18446744073709551616) :
    Calls Tryz.prog 86 #[.int .u64 n, .int .i64 1] w fun e w' => e = .returned (.string (bs (putB n 1))) ∧ Below w.heap.size w w' := by
  obtain ⟨i0, hi0, hz0, hz1, hz2⟩ := info_parts infoU8
  have HN := Lib.hid hn
  clear hn
  go_enter Tryz.func86, Tryz.ntmps86
  go_wp2_with fail
  go_loopw [0, 5, 9] (fun u o i wr => ∃ j : Nat, j ≤ 1 ∧ i = .int .i64 j ∧ u = .int .u64 ((n / 256 ^ j : Nat) : Int) ∧ wr.ownsRow w.heap.size 5 1 o j (bcells (putB n j)) ∧ Below w.heap.size w wr) (fun _ _ i _ => 1 - (intOf i).toNat)
  case atStart => exact ⟨0, by omega, rfl, by simp, ⟨rfl, .inl ⟨rfl, rfl⟩⟩, Below.refl _ _⟩
  case round =>
    obtain ⟨j, hj, rfl, rfl, hown, hBr⟩ := hrel
    have hsz := hBr.size
    by_cases hlt : j < 1
    · have hN := HN.out
      have hq : n / 256 ^ j < 18446744073709551616 := Nat.lt_of_le_of_lt (Nat.div_le_self _ _) hN
      have hnext : ((n / 256 ^ j : Nat) : Int) / 256 = ((n / 256 ^ (j + 1) : Nat) : Int) := by rw [Nat.pow_succ, ← Nat.div_div_eq_div_mul]; rfl
      have hcell : bcells (putB n j) ++ [Value.int .u8 (((n / 256 ^ j : Nat) : Int) % 256)] = bcells (putB n (j + 1)) := by
        rw [putB_succ, ← ofNat_toNat]
        simp [bcells]
      obtain ⟨x, hx⟩ : ∃ x, x = n / 256 ^ j := ⟨_, rfl⟩
      rw [← hx] at hq hcell hnext
      rw [← hx]
      have HX := Lib.hid hx
      have HNX := Lib.hid hnext
      have HC := Lib.hid hcell
      clear hx hnext hcell hN
      go_wp2_with (at_builtin; refine wpList_append_own _ rfl _ _ 118 rfl w.heap.size 5 i0 _ 1 1 Tryz.underlying118 hi0 hz0 hz1 hz2 rfl (by decide) u5 j (bcells (putB n j)) rfl (hown.alloc _) ⟨wr.heap.size, 0, none⟩ 1 1 [.int .u8 ((x : Int) % 256)] rfl rfl (cell_one_new wr _ _) (by intro u hu; simp at hu; subst hu; rfl) (by unfold maxLen; omega) (by omega) (by simp; omega) ?_; intro v' w1 hown' hgrow' hnil')
      have hB1 : Below w.heap.size w w1 := (hBr.alloc hsz _).grown hgrow' (by simp; omega) (fun k hk => (World.ownsRow.lt hown k (by first | exact hk | exact hk.symm)).1)
      rw [HC.out] at hown'
      go_roundw
      case rel => exact ⟨j + 1, by omega, by go_num, by rw [HNX.out], hown', hB1⟩
      case measure => simp [intOf]; omega
    · obtain rfl : j = 1 := by omega
      have hconv := run_str hown
      go_wp2
      go_ret
      exact ⟨rfl, hBr⟩
set_option maxRecDepth 100000 in
theorem Put_eight (n : Nat) (w : World) (hn : n < 18446744073709551616) :
    Calls Tryz.prog 86 #[.int .u64 n, .int .i64 8] w fun e w' => e = .returned (.string (bs (putB n 8))) ∧ Below w.heap.size w w' := by
  obtain ⟨i0, hi0, hz0, hz1, hz2⟩ := info_parts infoU8
  have HN := Lib.hid hn
  clear hn
  go_enter Tryz.func86, Tryz.ntmps86
  go_wp2_with fail
  go_loopw [0, 5, 9] (fun u o i wr => ∃ j : Nat, j ≤ 8 ∧ i = .int .i64 j ∧ u = .int .u64 ((n / 256 ^ j : Nat) : Int) ∧ wr.ownsRow w.heap.size 5 1 o j (bcells (putB n j)) ∧ Below w.heap.size w wr) (fun _ _ i _ => 8 - (intOf i).toNat)
  case atStart => exact ⟨0, by omega, rfl, by simp, ⟨rfl, .inl ⟨rfl, rfl⟩⟩, Below.refl _ _⟩
  case round =>
    obtain ⟨j, hj, rfl, rfl, hown, hBr⟩ := hrel
    have hsz := hBr.size
    by_cases hlt : j < 8
    · have hN := HN.out
      have hq : n / 256 ^ j < 18446744073709551616 := Nat.lt_of_le_of_lt (Nat.div_le_self _ _) hN
      have hnext : ((n / 256 ^ j : Nat) : Int) / 256 = ((n / 256 ^ (j + 1) : Nat) : Int) := by rw [Nat.pow_succ, ← Nat.div_div_eq_div_mul]; rfl
      have hcell : bcells (putB n j) ++ [Value.int .u8 (((n / 256 ^ j : Nat) : Int) % 256)] = bcells (putB n (j + 1)) := by
        rw [putB_succ, ← ofNat_toNat]
        simp [bcells]
      obtain ⟨x, hx⟩ : ∃ x, x = n / 256 ^ j := ⟨_, rfl⟩
      rw [← hx] at hq hcell hnext
      rw [← hx]
      have HX := Lib.hid hx
      have HNX := Lib.hid hnext
      have HC := Lib.hid hcell
      clear hx hnext hcell hN
      go_wp2_with (at_builtin; refine wpList_append_own _ rfl _ _ 118 rfl w.heap.size 5 i0 _ 1 1 Tryz.underlying118 hi0 hz0 hz1 hz2 rfl (by decide) u5 j (bcells (putB n j)) rfl (hown.alloc _) ⟨wr.heap.size, 0, none⟩ 1 1 [.int .u8 ((x : Int) % 256)] rfl rfl (cell_one_new wr _ _) (by intro u hu; simp at hu; subst hu; rfl) (by unfold maxLen; omega) (by omega) (by simp; omega) ?_; intro v' w1 hown' hgrow' hnil')
      have hB1 : Below w.heap.size w w1 := (hBr.alloc hsz _).grown hgrow' (by simp; omega) (fun k hk => (World.ownsRow.lt hown k (by first | exact hk | exact hk.symm)).1)
      rw [HC.out] at hown'
      go_roundw
      case rel => exact ⟨j + 1, by omega, by go_num, by rw [HNX.out], hown', hB1⟩
      case measure => simp [intOf]; omega
    · obtain rfl : j = 8 := by omega
      have hconv := run_str hown
      go_wp2
      go_ret
      exact ⟨rfl, hBr⟩
end Go.Proofs.YtjonmcbglcidhaaGreat
