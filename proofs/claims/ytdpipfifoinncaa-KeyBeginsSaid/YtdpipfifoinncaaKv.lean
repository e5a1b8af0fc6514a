import Derived.Test.YtdpipfifoinncaaKw
import Derived.Test.YtdpipfifoinncaaSh
namespace Go.Proofs.Ytdpipfifoinncaa
open Go.RowKit
set_option linter.unusedVariables false

def oneB (v : V) : List UInt8 := if v.kind = 1 then 1 :: bigB (turn v.n) 8 else if v.kind = 2 then 2 :: escB v.s.data.toList ++ [0, 0] else [0]
def keyE (l : List V) : List UInt8 × Int := if l.all may then (if 64 < (l.flatMap oneB).length then ([], 112) else (l.flatMap oneB, 0)) else ([], 110)
theorem turn_ex (n : Int) : ∃ x : Nat, bits .xor .u64 (w64 n : Int) 9223372036854775808 = x ∧ x < 18446744073709551616 ∧ x = turn n := by
  have := u64_xor_nat (w64 n) 9223372036854775808 (w64_lt n) (by decide)
  refine ⟨w64 n ^^^ 9223372036854775808, this, ?_, ?_⟩
  · exact Nat.xor_lt_two_pow (n := 64) (w64_lt n) (by decide)
  · unfold turn
    rw [show (9223372036854775808 : Int) = ((9223372036854775808 : Nat) : Int) from rfl, this]
    rfl
theorem one_any (v : V) (w : World) (hm : may v = true) : Calls Try.prog 29 #[.agg #[.int .i64 v.kind, .int .i64 v.n, .string v.s]] w fun e w' => e = .returned (.string (bs (oneB v))) ∧ Below w.heap.size w w' := by
  obtain ⟨k, n, s⟩ := v
  rcases may_kind hm with h | h | ⟨h, hs⟩
  · simp only at h
    subst h
    exact one_0 n s w
  · simp only at h
    subst h
    exact one_1 n s w (turn_ex n)
  · simp only at h hs
    subst h
    exact one_2 n s w hs
theorem oneB_len (v : V) (h : may v = true) : (oneB v).length ≤ 43 := by
  unfold oneB
  split
  · simp [bigB_len]
  · split
    · rename_i h1 h2
      have : v.s.size ≤ 20 := by
        rcases may_kind h with h | h | ⟨_, h⟩
        · omega
        · omega
        · exact h
      have := escB_len v.s.data.toList
      rw [data_len] at this
      simp only [List.length_cons, List.length_append, List.length_nil]
      omega
    · simp
theorem one_len : ∀ (l : List V), l.all may = true → (l.flatMap oneB).length ≤ 43 * l.length
  | [], _ => by simp
  | v :: r, h => by
    simp only [List.all_cons, Bool.and_eq_true] at h
    have := one_len r h.2
    have := oneB_len v h.1
    simp only [List.flatMap_cons, List.length_append, List.length_cons]
    omega
theorem one_next (l : List V) (k : Nat) (hk : k < l.length) : (l.take k).flatMap oneB ++ oneB l[k] = (l.take (k + 1)).flatMap oneB := by
  rw [List.take_succ_eq_append_getElem hk, List.flatMap_append]
  simp
theorem own_below {w w' : World} {B : Nat} {t : TypeId} {sz : Nat} {v : Value} {n : Nat} {xs : List Value} (h : w.ownsRow B t sz v n xs) (hb : Below w.heap.size w w') : w'.ownsRow B t sz v n xs := by
  obtain ⟨hl, h2 | ⟨g, cap, cur, rfl, hg, hh, r⟩⟩ := h
  · exact ⟨hl, .inl h2⟩
  · exact ⟨hl, .inr ⟨g, cap, cur, rfl, hg, (hb.block g (lt_of_block hh)).trans hh, r⟩⟩
theorem bd_below {w w' : World} {B b : Nat} {T t : TypeId} {xs : List Value} (h : Lib.IsBuilder T t B b xs w) (hb : Below w.heap.size w w') : Lib.IsBuilder T t B b xs w' := by
  rcases h with ⟨h1, v, h2, h3, h4⟩ | ⟨h1, v, h2, h3, h4⟩
  · exact .inl ⟨h1, v, (hb.block b (lt_of_block h2)).trans h2, own_below h3 hb, h4⟩
  · exact .inr ⟨h1, v, (hb.block b (lt_of_block h2)).trans h2, own_below h3 hb, h4⟩
theorem bcells_eq (l : List UInt8) : bcells l = Lib.byteCells l := rfl

set_option maxRecDepth 100000 in
set_option maxHeartbeats 1600000 in
theorem Key_any {w : World} {A : Option Addr} {cap : Nat} {l : List V} (h4 : l.length ≤ 4) (hV : VAt w A l) :
    Calls Try.prog 12 #[.slice A l.length cap] w fun e w' => e = .returned (.tuple #[.string (bs (keyE l).1), .int .i64 (keyE l).2]) ∧ Below w.heap.size w w' := by
  obtain ⟨n, hn⟩ : ∃ n, n = l.length := ⟨_, rfl⟩
  obtain ⟨T, hT⟩ : ∃ T, T = bs (keyE l).1 := ⟨_, rfl⟩
  obtain ⟨E, hE⟩ : ∃ E, E = (keyE l).2 := ⟨_, rfl⟩
  rw [← hn, ← hT, ← hE]
  have HT := Lib.hid hT
  have HE := Lib.hid hE
  clear hT hE
  have hn4 : n ≤ 4 := by omega
  have HN := Lib.hid hn
  clear hn h4
  go_enter Try.func12, Try.ntmps12
  go_wp2_with fail
  go_loopw [10] (fun i wr => ∃ k : Nat, k ≤ n ∧ i = .int .i64 k ∧ (l.take k).all may = true ∧ Lib.IsBuilder 65 5 w.heap.size w.heap.size (bcells ((l.take k).flatMap oneB)) wr ∧ Below w.heap.size w wr) (fun i _ => n - (intOf i).toNat)
  case atStart => exact ⟨0, by omega, rfl, rfl, Lib.fresh_isBuilder _ _ w, (Below.refl _ _).alloc (Nat.le_refl _) _⟩
  case round =>
    obtain ⟨k, hk, rfl, hall, hWr, hBr⟩ := hrel
    have hsz := hBr.size
    by_cases hlt : k < n
    · have hkl : k < l.length := by have := HN.out; omega
      obtain ⟨ad, ha⟩ := hV.below hBr k hkl
      obtain ⟨⟨kd, m, s⟩, hv⟩ : ∃ v, v = l[k] := ⟨_, rfl⟩
      have hnx := one_next l k hkl
      have hmy := all_next l k hkl hall
      have hno := all_no l k hkl
      rw [← hv] at ha hnx hmy hno
      obtain rfl := ha.at_
      have c0 := ha.c0
      have c1 := ha.c1
      have c2 := ha.c2
      have HV := Lib.hid hv
      have HNX := Lib.hid hnx
      have HMY := Lib.hid hmy
      have HNO := Lib.hid hno
      clear hv hnx hmy hno ha
      have hWa := bd_below hWr ((Below.refl _ _).alloc (Nat.le_refl _) (.cells #[.int .i64 kd, .int .i64 m, .string s] 43))
      have hBa := hBr.alloc hsz (.cells #[.int .i64 kd, .int .i64 m, .string s] 43)
      have hV0 : (wr.alloc (.cells #[.int .i64 kd, .int .i64 m, .string s] 43)).heap[wr.heap.size]? = some (.cells #[.int .i64 kd, .int .i64 m, .string s] 43 (0, 0)) := heap_alloc_new wr _
      have HALL := Lib.hid hall
      clear hall
      go_wp2_with fail
      refine (Check_any kd m s _).mono ?_
      rintro e w3 ⟨rfl, hB3⟩
      have hB3' := hBa.trans (hB3.mono hBa.size)
      have hW3 := bd_below hWa hB3
      have hV3 : w3.heap[wr.heap.size]? = some (.cells #[.int .i64 kd, .int .i64 m, .string s] 43 (0, 0)) := (hB3.block _ (by simp)).trans hV0
      obtain ⟨v0, v1, v2, vf⟩ := cells3 hV3
      cases hmv : may ⟨kd, m, s⟩
      · have hr : keyE l = ([], 110) := by
          unfold keyE
          rw [if_neg (by rw [HNO.out hmv]; decide)]
        have HR := Lib.hid hr
        clear hr hmv
        go_wp2
        go_ret2
        exact ⟨by rw [HT.out, HE.out, HR.out]; rfl, hB3'⟩
      · have hall' := HMY.out hmv
        have HMV := Lib.hid hmv
        clear hmv
        go_wp2_with fail
        refine (one_any ⟨kd, m, s⟩ w3 HMV.out).mono ?_
        rintro e w4 ⟨rfl, hB4⟩
        have hB4' := hB3'.trans (hB4.mono hB3'.size)
        have hW4 := bd_below hW3 hB4
        go_wp2_with fail
        refine (BWrite_any w.heap.size w.heap.size _ (bs (oneB ⟨kd, m, s⟩)) w4 hW4 (by have h1 := one_len (l.take k) HALL.out; have h2 := oneB_len ⟨kd, m, s⟩ HMV.out; rw [List.length_take] at h1; rw [bs_size]; omega) hB4'.size).mono ?_
        rintro e w5 ⟨rfl, hW5, hB5⟩
        rw [show (bs (oneB ⟨kd, m, s⟩)).data.toList = oneB ⟨kd, m, s⟩ from rfl, HNX.out] at hW5
        have hB5' := hB4'.trans hB5
        go_wp2_with fail
        go_roundw
        case rel => exact ⟨k + 1, by omega, by go_num, hall', hW5, hB5'⟩
        case measure => simp [intOf] <;> omega
    · obtain rfl : k = n := by omega
      have hkl := HN.out
      rw [hkl, List.take_length] at hall hWr
      have hr : keyE l = if 64 < (l.flatMap oneB).length then ([], 112) else (l.flatMap oneB, 0) := by
        unfold keyE
        rw [if_pos hall]
      obtain ⟨P, hP⟩ : ∃ P, P = l.flatMap oneB := ⟨_, rfl⟩
      rw [← hP] at hWr hr
      clear hP hkl hall
      have hL := Go.Proofs.Try.Builder_Len w.heap.size w.heap.size _ wr hWr
      rw [bcells_len] at hL
      have HL := Lib.hid hL
      clear hL
      by_cases h64 : 64 < P.length
      · rw [if_pos h64] at hr
        have HR := Lib.hid hr
        have hd : decide ((64 : Int) < (P.length : Int)) = true := by simp; omega
        clear hr
        go_wp2_with fail
        refine HL.out.mono ?_
        rintro e w3 ⟨rfl, rfl⟩
        go_wp2
        go_ret2
        exact ⟨by rw [HT.out, HE.out, HR.out]; rfl, hBr⟩
      · rw [if_neg h64] at hr
        have HR := Lib.hid hr
        have hd : decide ((64 : Int) < (P.length : Int)) = false := by simp; omega
        clear hr
        go_wp2_with fail
        refine HL.out.mono ?_
        rintro e w3 ⟨rfl, rfl⟩
        go_wp2_with fail
        refine (Go.Proofs.Try.Builder_String_any w.heap.size w.heap.size P _ hWr hsz).mono ?_
        rintro e w4 ⟨rfl, hB4⟩
        have hB4' := hBr.trans hB4
        go_wp2
        go_ret2
        exact ⟨by rw [HT.out, HE.out, HR.out]; rfl, hB4'⟩
end Go.Proofs.Ytdpipfifoinncaa
