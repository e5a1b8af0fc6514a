import Derived.Test.YtogeojiaiilghaaGreatOq
import Derived.Test.YtogeojiaiilghaaGreatSx
set_option linter.unusedVariables false
namespace Go.Ev
open Go.RowKit Go.Proofs
noncomputable section
def cntK (l : Nat) : Nat → Nat → Nat := Nat.rec (motive := fun _ => Nat → Nat → Nat) (fun _ _ => 0) (fun _ ih n c => Nat.add (ih (Nat.div n 256) c) (Bool.rec 0 1 (Nat.beq (Nat.mod n 256) c))) l
def countO (vs : List AV) (H : Tr AObj) (N : Nat) : Option (AV × Tr AObj × Nat) :=
  match vs with
  | [.str l n, .str 1 b] => some (.int .i64 (.ofNat (cntK l n (Nat.mod b 256))), H, N)
  | _ => none
end
theorem cntK_eq (b : Nat) : ∀ (l n : Nat), cntK l n (b % 256) = Lib.countByte (sbytes l n) (UInt8.ofNat (b % 256))
  | 0, n => rfl
  | l + 1, n => by
    have hs : sbytes (l + 1) n = UInt8.ofNat (Nat.mod n 256) :: sbytes l (Nat.div n 256) := rfl
    have hk : cntK (l + 1) n (b % 256) = Nat.add (cntK l (Nat.div n 256) (b % 256)) (Bool.rec 0 1 (Nat.beq (Nat.mod n 256) (b % 256))) := rfl
    have ih := cntK_eq b l (Nat.div n 256)
    unfold Lib.countByte at ih ⊢
    rw [hs, hk, ih, List.count_cons, bool_rec]
    have e : Nat.mod n 256 = n % 256 := rfl
    rw [e]
    by_cases h : n % 256 = b % 256
    · rw [h]; simp [Nat.beq_refl]
    · have h1 : Nat.beq (n % 256) (b % 256) = false := beq_ne h
      have h2 : (UInt8.ofNat (n % 256) == UInt8.ofNat (b % 256)) = false := by
        cases hx : (UInt8.ofNat (n % 256) == UInt8.ofNat (b % 256))
        · rfl
        · exfalso
          have := congrArg UInt8.toNat (eq_of_beq hx)
          simp at this
          omega
      rw [h1, h2]; simp
theorem count_orc : CallOk Tryz.prog fun f' vs H N => match Nat.beq f' 250 with
    | true => match countO vs H N with
      | some (v, H, N) => some ⟨v, H, N⟩
      | none => none
    | false => none := by
  intro f vs H N out h
  simp only at h
  split at h
  case h_2 => cases h
  rename_i hf
  obtain rfl := Nat.eq_of_beq_eq_true hf
  refine ⟨⟨Tryz.f250, Tryz.func250, rfl, rfl⟩, fun φ w hh hs hN => ?_⟩
  unfold countO at h
  split at h
  case h_2 => cases h
  rename_i v1 H1 N1 hm
  obtain rfl := Option.some.inj h
  split at hm
  case h_2 => cases hm
  rename_i l n b
  cases hm
  have := Tryz.strings_Count_one ⟨(sbytes l n).toArray⟩ (UInt8.ofNat (b % 256)) w
  simp only [cs_cons, cs_nil, c_str]
  refine Calls.mono this fun e w' hr => ?_
  obtain ⟨e1, rfl⟩ := hr
  refine ⟨φ, ?_, hh, Moves.refl _ _ _ _, sc_int _ _ _ _⟩
  rw [e1]
  have e : Nat.mod b 256 = b % 256 := rfl
  simp only [c_int, e, cntK_eq]
  simp
end Go.Ev
