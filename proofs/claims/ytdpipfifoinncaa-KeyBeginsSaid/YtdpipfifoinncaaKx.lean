import Derived.Test.YtdpipfifoinncaaKv
import Derived.Test.YtdpipfifoinncaaKq
namespace Go.Proofs.Ytdpipfifoinncaa
open Go.RowKit
set_option linter.unusedVariables false

theorem bl_app (R : List UInt8) : ∀ T : List UInt8, Op.bytesLess (T ++ R) T = false
  | [] => by cases R <;> rfl
  | a :: T => by
    have := bl_app R T
    simp [Op.bytesLess, this]
theorem bl_le (R : List UInt8) (hR : R = [] ∨ ∃ b r, R = b :: r ∧ b < 255) : ∀ T : List UInt8, Op.bytesLess (T ++ R) (T ++ [255]) = true
  | [] => by
    rcases hR with rfl | ⟨b, r, rfl, hb⟩
    · rfl
    · simp [Op.bytesLess, hb]
  | a :: T => by
    have := bl_le R hR T
    simp [Op.bytesLess, this]
theorem oneB_head (v : V) : ∃ b r, oneB v = b :: r ∧ b < 255 := by
  unfold oneB
  split
  · exact ⟨_, _, rfl, by decide⟩
  · split
    · exact ⟨_, _, rfl, by decide⟩
    · exact ⟨_, _, rfl, by decide⟩
theorem begins (l : List V) (k : Nat) (h : (keyE l).2 = 0) :
    keyE (l.take k) = ((l.take k).flatMap oneB, 0) ∧ ((l.take k).flatMap oneB).length ≤ 64 ∧ ∃ R, (keyE l).1 = (l.take k).flatMap oneB ++ R ∧ (R = [] ∨ ∃ b r, R = b :: r ∧ b < 255) := by
  unfold keyE at h
  by_cases ha : l.all may = true
  · rw [if_pos ha] at h
    by_cases hb : 64 < (l.flatMap oneB).length
    · rw [if_pos hb] at h
      simp at h
    · have hs : l.flatMap oneB = (l.take k).flatMap oneB ++ (l.drop k).flatMap oneB := by
        rw [← List.flatMap_append, List.take_append_drop]
      have hlen : ((l.take k).flatMap oneB).length ≤ 64 := by
        rw [hs, List.length_append] at hb
        omega
      have hat : (l.take k).all may = true := by
        rw [List.all_eq_true] at ha ⊢
        intro x hx
        exact ha x (List.mem_of_mem_take hx)
      refine ⟨?_, hlen, (l.drop k).flatMap oneB, ?_, ?_⟩
      · unfold keyE
        rw [if_pos hat, if_neg (by omega)]
      · unfold keyE
        rw [if_pos ha, if_neg hb]
        exact hs
      · cases hd : l.drop k with
        | nil => exact .inl rfl
        | cons v r =>
          obtain ⟨b, t, hv, hb⟩ := oneB_head v
          exact .inr ⟨b, t ++ r.flatMap oneB, by simp [hv], hb⟩
  · rw [if_neg ha] at h
    simp at h
theorem VAt.take {w : World} {A : Option Addr} {l : List V} (h : VAt w A l) (n : Nat) : VAt w A (l.take n) := fun k hk => by
  have hl : k < l.length := by rw [List.length_take] at hk; omega
  obtain ⟨ad, ha⟩ := h k hl
  exact ⟨ad, by rw [List.getElem_take]; exact ha⟩
theorem key_len (l : List V) : (keyE l).1.length ≤ 64 := by
  unfold keyE
  split
  · split
    · simp
    · simp only; omega
  · simp

/-- What the law asks of the keys of a list and of its first ones. -/
structure Begin (S T : ByteArray) : Prop where
  size : T.size ≤ S.size
  most : S.size ≤ 64
  front : ((S.extract 0 T.size).toList == T.toList) = true
  low : Op.bytesLess S.toList T.toList = false
  high : Op.bytesLess S.toList (T ++ ⟨#[255]⟩).toList = true
theorem begin_of (l : List V) (k : Nat) (h : (keyE l).2 = 0) : Begin (bs (keyE l).1) (bs (keyE (l.take k)).1) ∧ (keyE (l.take k)).2 = 0 := by
  have hkl := key_len l
  obtain ⟨h1, hl, R, h2, hR⟩ := begins l k h
  rw [h2] at hkl
  rw [h1, h2]
  generalize (l.take k).flatMap oneB = T at *
  refine ⟨⟨?_, ?_, ?_, ?_, ?_⟩, rfl⟩
  · rw [bs_size, bs_size, List.length_append]
    exact Nat.le_add_right _ _
  · rw [bs_size]; exact hkl
  · rw [Lib.extract_toList, Lib.toList_data, bs_size]
    show (((T ++ R).drop 0).take (T.length - 0) == T) = true
    simp
  · rw [Lib.toList_data, Lib.toList_data]
    exact bl_app R T
  · rw [show (⟨#[255]⟩ : ByteArray) = bs [255] from rfl, bs_append, Lib.toList_data, Lib.toList_data]
    exact bl_le R hR T

theorem Keys_any {w : World} {A : Option Addr} {l : List V} (cap k : Nat) (hk : k ≤ l.length) (h4 : k ≤ 4) (hA : VAt w A l) :
    Calls Try.prog 12 #[.slice A k cap] w fun e w' => e = .returned (.tuple #[.string (bs (keyE (l.take k)).1), .int .i64 (keyE (l.take k)).2]) ∧ Below w.heap.size w w' := by
  have hl : (l.take k).length = k := by rw [List.length_take]; omega
  have := Key_any (cap := cap) (l := l.take k) (by omega) (hA.take k)
  rw [hl] at this
  exact this

/-- The second half of the law: the keys are there. -/
def Two (w : World) (A : Option Addr) (cap m : Nat) (S : ByteArray) (E : Int) : Prop :=
  (∀ W, Below w.heap.size w W → Calls Try.prog 12 #[.slice A m cap] W fun e w' => e = .returned (.tuple #[.string S, .int .i64 E]) ∧ Below W.heap.size W w') ∧
  (E = 0 → ∀ k, k ≤ m → ∃ T, Begin S T ∧ ∀ W, Below w.heap.size w W → Calls Try.prog 12 #[.slice A k cap] W fun e w' => e = .returned (.tuple #[.string T, .int .i64 0]) ∧ Below W.heap.size W w')
theorem two_of {w : World} {A : Option Addr} {l : List V} (cap m : Nat) (hm : m ≤ l.length) (h4 : m ≤ 4) (hA : VAt w A l) : Two w A cap m (bs (keyE (l.take m)).1) (keyE (l.take m)).2 := by
  refine ⟨fun W hW => Keys_any cap m hm h4 (hA.below hW), fun hE k hk => ?_⟩
  obtain ⟨h1, h2⟩ := begin_of (l.take m) k hE
  rw [List.take_take, Nat.min_eq_left hk] at h1 h2
  refine ⟨_, h1, fun W hW => ?_⟩
  have := Keys_any cap k (by omega) (by omega) (hA.below hW)
  rw [h2] at this
  exact this
theorem rem_at (n : Int) (m : Nat) (hm : m ≤ 4) : -4 ≤ n.tmod ((m : Int) + 1) ∧ n.tmod ((m : Int) + 1) ≤ 4 ∧ 0 ≤ n.tmod ((m : Int) + 1) + m := by
  have h1 := Int.tmod_lt_of_pos n (b := (m : Int) + 1) (by omega)
  have h2 : -((m : Int) + 1) < n.tmod ((m : Int) + 1) := by
    have := Int.tmod_lt_of_pos (-n) (b := (m : Int) + 1) (by omega)
    rw [Int.neg_tmod] at this
    omega
  omega
end Go.Proofs.Ytdpipfifoinncaa
