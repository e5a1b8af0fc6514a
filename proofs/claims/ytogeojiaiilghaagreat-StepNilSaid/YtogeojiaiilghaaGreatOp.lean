import Derived.Test.YtogeojiaiilghaaGreatOc
set_option linter.unusedVariables false
namespace Go.Ev
open Go.RowKit Go.Proofs
noncomputable section
def repK (l n : Nat) (c : Nat) : Nat := Nat.rec (motive := fun _ => Nat) 0 (fun _ ih => Nat.add (Nat.mod n (Nat.pow 256 l)) (Nat.mul ih (Nat.pow 256 l))) c
def repM (l n c : Nat) : Nat :=
  match Nat.beq (Nat.mod n (Nat.pow 256 l)) 0 with
  | true => 0
  | false => repK l n c
def repeatO (vs : List AV) (H : Tr AObj) (N : Nat) : Option (AV × Tr AObj × Nat) :=
  match vs with
  | [.str l n, .int .i64 (.ofNat c)] => match Nat.ble c 9223372036854775807 with
    | true => match Nat.ble (Nat.mul l c) 140737488355328 with
      | true => some (.str (Nat.mul l c) (repM l n c), H, N)
      | false => none
    | false => none
  | _ => none
end
theorem repK_eq (l n : Nat) : ∀ c, sbytes (l * c) (repK l n c) = Lib.repeatL (sbytes l n) c
  | 0 => rfl
  | c + 1 => by
    have hk : repK l n (c + 1) = n % 256 ^ l + repK l n c * 256 ^ l := rfl
    rw [hk, Nat.mul_succ, Nat.add_comm, sbytes_cat, repK_eq l n c]
    rfl
theorem repK_zero (l n : Nat) (h : n % 256 ^ l = 0) : ∀ c, repK l n c = 0
  | 0 => rfl
  | c + 1 => by
    have hk : repK l n (c + 1) = n % 256 ^ l + repK l n c * 256 ^ l := rfl
    rw [hk, h, repK_zero l n h c]
    simp
theorem repM_eq (l n c : Nat) : repM l n c = repK l n c := by
  unfold repM
  split
  · rename_i h
    exact (repK_zero l n (Nat.eq_of_beq_eq_true h) c).symm
  · rfl
theorem repeat_orc : CallOk Tryz.prog fun f' vs H N => match Nat.beq f' 109 with
    | true => match repeatO vs H N with
      | some (v, H, N) => some ⟨v, H, N⟩
      | none => none
    | false => none := by
  intro f vs H N out h
  simp only at h
  split at h
  case h_2 => cases h
  rename_i hf
  obtain rfl := Nat.eq_of_beq_eq_true hf
  refine ⟨⟨Tryz.f109, Tryz.func109, rfl, rfl⟩, fun φ w hh hs hN => ?_⟩
  unfold repeatO at h
  split at h
  case h_2 => cases h
  rename_i v1 H1 N1 hm
  obtain rfl := Option.some.inj h
  split at hm
  case h_2 => cases hm
  rename_i l n c
  split at hm
  case h_2 => cases hm
  rename_i hc
  have hc := ble_le hc
  split at hm
  case h_2 => cases hm
  rename_i hl
  have hl := ble_le hl
  have hl : l * c ≤ 140737488355328 := hl
  cases hm
  have := Tryz.strings_Repeat ⟨(sbytes l n).toArray⟩ c w hc (by simpa [ByteArray.size, sbytes_len] using hl)
  simp only [cs_cons, cs_nil, c_str, c_int]
  refine Calls.mono this fun e w' hr => ?_
  obtain ⟨e1, e2⟩ := hr
  obtain ⟨r1, r2⟩ := below_rel hh e2
  refine ⟨φ, ?_, r1, r2, sc_str _ _ _ _⟩
  rw [e1]
  have e : Nat.mul l c = l * c := rfl
  simp only [c_str, e, repM_eq, repK_eq]
end Go.Ev
