import Derived.Test.YtogeojiaiilghaaGreatRows
import Derived.WalkKit
import Derived.WalkSpells
import Derived.Lib.Hide
namespace Go.Proofs.YtogeojiaiilghaaGreat
open Go Go.Proofs Go.RowKit
theorem wrap_u32 (n : Nat) (h : n < 4294967296) : IntKind.u32.wrap (n : Int) = n := by
  simp [IntKind.wrap, IntKind.bits, IntKind.signed]
  omega
theorem bits_xor (a b : Nat) (ha : a < 4294967296) (hb : b < 4294967296) : bits .xor .u32 (a : Int) (b : Int) = (Nat.xor a b : Nat) := by
  have h : a ^^^ b < 4294967296 := Nat.xor_lt_two_pow (n := 32) ha hb
  have e : IntKind.u32.bits = 32 := rfl
  unfold bits
  simp only [e, BitVec.toNat_xor, BitVec.ofInt_natCast, BitVec.toNat_ofNat, Nat.mod_eq_of_lt ha, Nat.mod_eq_of_lt hb]
  exact wrap_u32 _ h
theorem bits_and1 (a : Nat) (ha : a < 4294967296) : bits .and .u32 (a : Int) 1 = (a % 2 : Nat) := by
  have h : a &&& 1 = a % 2 := Nat.and_one_is_mod a
  have e : IntKind.u32.bits = 32 := rfl
  have e1 : (1 : Int) = ((1 : Nat) : Int) := rfl
  unfold bits
  rw [e1]
  simp only [e, BitVec.toNat_and, BitVec.ofInt_natCast, BitVec.toNat_ofNat, Nat.mod_eq_of_lt ha]
  have : (1 : Nat) % 2 ^ 32 = 1 := rfl
  rw [this, h]
  exact wrap_u32 _ (by omega)
def iOf : Value → Int
  | .int _ n => n
  | _ => 0
/-- One round on a bit. -/
def crcB (r : Nat) : Nat := if r % 2 = 1 then Nat.xor (r / 2) 2197175160 else r / 2
/-- Rounds. -/
def crcN : Nat → Nat → Nat
  | 0, r => r
  | n + 1, r => crcN n (crcB r)
def crcL : List UInt8 → Nat → Nat
  | [], r => r
  | c :: l, r => crcL l (crcN 8 (Nat.xor r c.toNat))
theorem crcB_lt (r : Nat) (h : r < 4294967296) : crcB r < 4294967296 := by
  unfold crcB
  split
  · exact Nat.xor_lt_two_pow (n := 32) (by omega) (by decide)
  · omega
set_option maxRecDepth 100000 in
set_option maxHeartbeats 800000 in
theorem more_any (s : Nat) (l : List UInt8) (w : World) (hs : s < 4294967296) (hlen : l.length < 9223372036854775808) : Calls Tryz.prog 133 #[.int .u32 s, .string ⟨l.toArray⟩] w fun e w' => e = .returned (.int .u32 ((Nat.xor (crcL l (Nat.xor s 4294967295)) 4294967295 : Nat) : Int)) ∧ Below w.heap.size w w' := by
  have hx0 : Nat.xor s 4294967295 < 4294967296 := Nat.xor_lt_two_pow (n := 32) hs (by decide)
  go_enter Tryz.func133, Tryz.ntmps133
  go_wp2_with fail
  go_loopw [5, 11] (fun r i wr => ∃ (rn k : Nat), r = .int .u32 (rn : Int) ∧ i = .int .i64 (k : Int) ∧ k ≤ l.length ∧ rn < 4294967296 ∧ Hid (crcL l (Nat.xor s 4294967295) = crcL (l.drop k) rn) ∧ Below w.heap.size w wr) (fun _ i _ => l.length - (iOf i).toNat)
  case atStart => exact ⟨Nat.xor s 4294967295, 0, by rw [show (4294967295 : Int) = ((4294967295 : Nat) : Int) from rfl, bits_xor s _ hs (by decide)], rfl, Nat.zero_le _, hx0, Lib.hid rfl, Below.refl _ _⟩
  case round =>
    obtain ⟨rn, k, rfl, rfl, hk, hrn, hcrc, hBr⟩ := hrel
    by_cases hkl : k < l.length
    · have hc : decide ((k : Int) < (l.length : Int)) = true := by simp; omega
      go_wp2_with fail
      go_loopw [5, 20] (fun r i wr' => ∃ (m j : Nat), r = .int .u32 (m : Int) ∧ i = .int .i64 (j : Int) ∧ j ≤ 8 ∧ m < 4294967296 ∧ Hid (crcN (8 - j) m = crcN 8 (Nat.xor rn l[k].toNat)) ∧ wr' = wr) (fun _ i _ => 8 - (iOf i).toNat)
      case atStart =>
        have hx1 : Nat.xor rn l[k].toNat < 4294967296 := Nat.xor_lt_two_pow (n := 32) hrn (by have := l[k].toNat_lt; omega)
        refine ⟨Nat.xor rn l[k].toNat, 0, ?_, rfl, Nat.zero_le _, hx1, Lib.hid rfl, rfl⟩
        have hmod : ((l[k].toNat : Int) % 4294967296) = ((l[k].toNat : Nat) : Int) := by have := l[k].toNat_lt; omega
        show Value.int IntKind.u32 (bits BinOp.xor IntKind.u32 (rn : Int) ((l[k].toNat : Int) % 4294967296)) = _
        rw [hmod, bits_xor rn _ hrn (by have := l[k].toNat_lt; omega)]
      case round =>
        obtain ⟨m, j, rfl, rfl, hj, hm, hcj, rfl⟩ := hrel
        by_cases hj8 : j < 8
        · have hc2 : decide ((j : Int) < 8) = true := by simp; omega
          by_cases hodd : m % 2 = 1
          · have ho : (bits BinOp.and IntKind.u32 (m : Int) 1 == 1) = true := by rw [bits_and1 m hm, hodd]; rfl
            go_wp2_with fail
            have hdiv : ((m : Int) / 2) = ((m / 2 : Nat) : Int) := by omega
            have hx : Nat.xor (m / 2) 2197175160 < 4294967296 := Nat.xor_lt_two_pow (n := 32) (by omega) (by decide)
            refine ⟨⟨Nat.xor (m / 2) 2197175160, j + 1, ?_, by simp, by omega, hx, Lib.hid ?_, trivial⟩, ?_⟩
            · rw [hdiv, show (2197175160 : Int) = ((2197175160 : Nat) : Int) from rfl, bits_xor (m / 2) _ (by omega) (by decide)]
            · have h1 : 8 - j = (8 - (j + 1)) + 1 := by omega
              have h2 := hcj.out
              rw [h1] at h2
              rw [← h2, crcN, crcB, if_pos hodd]
            · simp only [iOf]
              omega
          · have ho : (bits BinOp.and IntKind.u32 (m : Int) 1 == 1) = false := by
              rw [bits_and1 m hm, show m % 2 = 0 from by omega]; rfl
            go_wp2_with fail
            have hdiv : ((m : Int) / 2) = ((m / 2 : Nat) : Int) := by omega
            refine ⟨⟨m / 2, j + 1, by rw [hdiv], by simp, by omega, by omega, Lib.hid ?_, trivial⟩, ?_⟩
            · have h1 : 8 - j = (8 - (j + 1)) + 1 := by omega
              have h2 := hcj.out
              rw [h1] at h2
              rw [← h2, crcN, crcB, if_neg hodd]
            · simp only [iOf]
              omega
        · have hc2 : decide ((j : Int) < 8) = false := by simp; omega
          have hj9 : j = 8 := by omega
          subst hj9
          go_wp2_with fail
          have h2 := hcj.out
          refine ⟨⟨m, k + 1, rfl, by simp, by omega, hm, Lib.hid ?_, hBr⟩, ?_⟩
          · have h3 := hcrc.out
            rw [h3, List.drop_eq_getElem_cons hkl, crcL, ← h2]
            rfl
          · simp only [iOf]
            omega
    · have hc : decide ((k : Int) < (l.length : Int)) = false := by simp; omega
      have hke : k = l.length := by omega
      go_wp2_with fail
      go_ret
      refine ⟨?_, hBr⟩
      have h3 := hcrc.out
      rw [hke, List.drop_length, crcL] at h3
      rw [h3, show (4294967295 : Int) = ((4294967295 : Nat) : Int) from rfl, bits_xor rn _ hrn (by decide)]
      rfl
end Go.Proofs.YtogeojiaiilghaaGreat
