import Derived.Test.YtogeojiaiilghaaGreatV3
import Derived.Test.YtogeojiaiilghaaGreatOm
set_option linter.unusedVariables false
namespace Go.Ev
open Go.RowKit Go.Proofs Go.Proofs.YtogeojiaiilghaaGreat
noncomputable section
def crcK (r : Nat) : Nat := Bool.rec (Nat.div r 2) (Nat.xor (Nat.div r 2) 2197175160) (Nat.beq (Nat.mod r 2) 1)
def crc8 (r : Nat) : Nat := crcK (crcK (crcK (crcK (crcK (crcK (crcK (crcK r)))))))
def crcS (l : Nat) : Nat → Nat → Nat := Nat.rec (motive := fun _ => Nat → Nat → Nat) (fun _ r => r) (fun _ ih n r => (fun x => (Bool.rec 0 (ih (Nat.div n 256) x) (Nat.blt x 4294967296) : Nat)) (crc8 (Nat.xor r (Nat.mod n 256)))) l
def moreO (vs : List AV) (H : Tr AObj) (N : Nat) : Option (AV × Tr AObj × Nat) :=
  match vs with
  | [.int .u32 (.ofNat s), .str l n] => match Nat.blt s 4294967296 with
    | true => match Nat.blt l 9223372036854775808 with
      | true => some (.int .u32 (.ofNat (Nat.xor (crcS l n (Nat.xor s 4294967295)) 4294967295)), H, N)
      | false => none
    | false => none
  | _ => none
end
/-- What changes nothing that stood. -/
theorem below_rel {φ : Emb} {H : Tr AObj} {N : Nat} {w w' : World} (h : HRel φ H N w) (b : Below w.heap.size w w') : HRel φ H N w' ∧ Moves φ H N w φ H N w' := by
  obtain ⟨b1, b2, b3, b4, b5⟩ := b
  refine ⟨⟨fun l p hp => ⟨(h.all l p hp).1, fun hk => ?_⟩, h.inj⟩, ⟨Emb.Same.refl _ _, Nat.le_refl _, b1, b2, b3, b4, fun _ _ h => h, fun _ _ _ => rfl, fun k hk _ => b5 k hk, fun l p hp hk _ => ⟨l, p, hp, hk, rfl⟩⟩⟩
  obtain ⟨h1, h2, h3⟩ := h.obj l p hp hk
  exact ⟨h2.kept h1 hk h3 (Emb.Same.refl _ _) (b5 _ h2.lt), h3⟩
theorem crcK_eq (r : Nat) : crcK r = crcB r := by
  unfold crcK crcB
  rw [bool_rec]
  by_cases h : r % 2 = 1
  · have : Nat.beq (Nat.mod r 2) 1 = true := by show Nat.beq (r % 2) 1 = true; rw [h]; rfl
    rw [this, if_pos h]; rfl
  · have : Nat.beq (Nat.mod r 2) 1 = false := beq_ne h
    rw [this, if_neg h]; rfl
theorem crc8_eq (r : Nat) : crc8 r = crcN 8 r := by
  unfold crc8
  simp only [crcK_eq]
  rfl
theorem crcN_lt : ∀ (n r : Nat), r < 4294967296 → crcN n r < 4294967296
  | 0, r, h => h
  | n + 1, r, h => crcN_lt n _ (crcB_lt r h)
theorem crcS_eq : ∀ (l n r : Nat), r < 4294967296 → crcS l n r = crcL (sbytes l n) r
  | 0, n, r, h => rfl
  | l + 1, n, r, h => by
    have hc : (UInt8.ofNat (Nat.mod n 256)).toNat = n % 256 := by
      show (UInt8.ofNat (n % 256)).toNat = _
      simp
    have hx : Nat.xor r (n % 256) < 4294967296 := Nat.xor_lt_two_pow (n := 32) h (by omega)
    have hx8 := crcN_lt 8 _ hx
    have hs : sbytes (l + 1) n = UInt8.ofNat (Nat.mod n 256) :: sbytes l (Nat.div n 256) := rfl
    rw [hs, crcL, hc, ← crcS_eq l _ _ hx8, ← crc8_eq]
    have hb : Nat.blt (crc8 (Nat.xor r (n % 256))) 4294967296 = true := Nat.blt_eq.mpr (by rw [crc8_eq]; exact hx8)
    show (Bool.rec 0 (crcS l (Nat.div n 256) (crc8 (Nat.xor r (Nat.mod n 256)))) (Nat.blt (crc8 (Nat.xor r (Nat.mod n 256))) 4294967296) : Nat) = _
    have e : Nat.mod n 256 = n % 256 := rfl
    rw [e, hb]
theorem more_orc : CallOk Tryz.prog fun f' vs H N => match Nat.beq f' 133 with
    | true => match moreO vs H N with
      | some (v, H, N) => some ⟨v, H, N⟩
      | none => none
    | false => none := by
  intro f vs H N out h
  simp only at h
  split at h
  case h_2 => cases h
  rename_i hf
  obtain rfl := Nat.eq_of_beq_eq_true hf
  refine ⟨⟨Tryz.f133, Tryz.func133, rfl, rfl⟩, fun φ w hh hs hN => ?_⟩
  unfold moreO at h
  split at h
  case h_2 => cases h
  rename_i v1 H1 N1 hm
  obtain rfl := Option.some.inj h
  split at hm
  case h_2 => cases hm
  rename_i s l n
  split at hm
  case h_2 => cases hm
  rename_i h1
  have h1 := blt_lt h1
  split at hm
  case h_2 => cases hm
  rename_i h2
  have h2 := blt_lt h2
  have hm := Option.some.inj hm
  have := more_any s (sbytes l n) w h1 (by rw [sbytes_len]; exact h2)
  simp only [cs_cons, cs_nil, c_int, c_str]
  refine Calls.mono this fun e w' hr => ?_
  obtain ⟨e1, e2⟩ := hr
  obtain ⟨r1, r2⟩ := below_rel hh e2
  have hx : Nat.xor s 4294967295 < 4294967296 := Nat.xor_lt_two_pow (n := 32) h1 (by decide)
  cases hm
  refine ⟨φ, ?_, r1, r2, sc_int _ _ _ _⟩
  rw [e1, crcS_eq _ _ _ hx]
  simp
end Go.Ev
