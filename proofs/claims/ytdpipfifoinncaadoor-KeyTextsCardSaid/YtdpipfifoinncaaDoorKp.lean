import Derived.Test.YtdpipfifoinncaaDoorKj
namespace Go.Proofs.YtdpipfifoinncaaDoor
open Go.RowKit
set_option linter.unusedVariables false

theorem putB_cons (n K : Nat) : putB n (K + 1) = UInt8.ofNat n :: putB (n / 256) K := by
  unfold putB
  rw [List.range_succ_eq_map, List.map_cons, List.map_map]
  simp only [Nat.pow_zero, Nat.div_one]
  congr 1
  apply List.map_congr_left
  intro j _
  show UInt8.ofNat (n / 256 ^ (j + 1)) = UInt8.ofNat (n / 256 / 256 ^ j)
  rw [Nat.div_div_eq_div_mul, Nat.pow_succ, Nat.mul_comm]
theorem getN_putB : ∀ (K n : Nat), n < 256 ^ K → getN (putB n K) = n
  | 0, n, h => by
    have : n = 0 := by simpa using h
    subst this; rfl
  | K + 1, n, h => by
    rw [putB_cons, getN, getN_putB K (n / 256) (by rw [Nat.pow_succ] at h; omega)]
    have : (UInt8.ofNat n).toNat = n % 256 := by simp [UInt8.toNat_ofNat']
    omega
theorem seg_mid (a b c : List UInt8) : seg (bs (a ++ b ++ c)) a.length b.length = b := by
  unfold seg bs
  show ((a ++ b ++ c).drop a.length).take b.length = b
  rw [List.append_assoc, List.drop_left, List.take_left]
theorem num_at (a c : List UInt8) (n K : Nat) (hn : n < 256 ^ K) : numS (bs (a ++ putB n K ++ c)) a.length 0 K = (a.length + K, 0, n) := by
  unfold numS
  rw [if_neg (by decide), if_neg (by rw [bs_size]; simp [putB_len])]
  have := seg_mid a (putB n K) c
  rw [putB_len] at this
  rw [this, getN_putB K n hn]
theorem bytes_at (a b c : List UInt8) : bytesS (bs (a ++ b ++ c)) a.length 0 b.length = (a.length + b.length, 0, b) := by
  unfold bytesS
  rw [if_neg (by decide), if_neg (by rw [bs_size]; simp), seg_mid]

theorem wrap_w64 (n : Int) (h : -9223372036854775808 ≤ n) (h' : n ≤ 9223372036854775807) : wrap64 (w64 n : Int) = n := by
  unfold wrap64 w64
  omega

theorem rdVal_at (a c : List UInt8) (v : V) (hm : may v = true) (h1 : -9223372036854775808 ≤ v.n) (h2 : v.n ≤ 9223372036854775807) :
    rdVal (bs (a ++ encV v ++ c)) a.length 0 = (a.length + (encV v).length, 0, v) := by
  obtain ⟨k, n, s⟩ := v
  rcases may_kind hm with h | h | ⟨h, hs⟩
  · simp only at h
    subst h
    have hz : n = 0 ∧ s.toList.isEmpty = true := by simpa [may] using hm
    have hs : s = ⟨#[]⟩ := by
      rw [ByteArray.toList_eq] at hz
      obtain ⟨⟨l⟩⟩ := s
      have := hz.2
      simp at this
      subst this; rfl
    obtain ⟨rfl, -⟩ := hz
    subst hs
    have e : encV ⟨0, 0, ⟨#[]⟩⟩ = putB 0 1 := by simp [encV, w64]
    rw [e]
    have := num_at a c 0 1 (by decide)
    unfold rdVal
    rw [this]
    simp [putB_len]
  · simp only at h
    subst h
    have hz : s.toList.isEmpty = true := by simpa [may] using hm
    have hs : s = ⟨#[]⟩ := by
      rw [ByteArray.toList_eq] at hz
      obtain ⟨⟨l⟩⟩ := s
      simp at hz
      subst hz; rfl
    subst hs
    have e : encV ⟨1, n, ⟨#[]⟩⟩ = putB 1 1 ++ putB (w64 n) 8 := by simp [encV, w64]
    rw [e]
    have t1 := num_at a (putB (w64 n) 8 ++ c) 1 1 (by decide)
    have t2 := num_at (a ++ putB 1 1) c (w64 n) 8 (w64_lt n)
    rw [show a ++ putB 1 1 ++ (putB (w64 n) 8 ++ c) = a ++ (putB 1 1 ++ putB (w64 n) 8) ++ c by simp] at t1
    rw [show a ++ putB 1 1 ++ putB (w64 n) 8 ++ c = a ++ (putB 1 1 ++ putB (w64 n) 8) ++ c by simp, List.length_append, putB_len] at t2
    unfold rdVal
    rw [t1]
    simp only [if_true]
    rw [t2, wrap_w64 n h1 h2]
    simp [putB_len]
  · simp only at h hs
    subst h
    have hz : n = 0 ∧ s.size ≤ 20 := by simpa [may] using hm
    obtain ⟨rfl, -⟩ := hz
    have e : encV ⟨2, 0, s⟩ = putB 2 1 ++ (putB s.size 1 ++ s.data.toList) := by simp [encV, w64]
    rw [e]
    have t1 := num_at a (putB s.size 1 ++ s.data.toList ++ c) 2 1 (by decide)
    have t2 := num_at (a ++ putB 2 1) (s.data.toList ++ c) s.size 1 (by omega)
    have t3 := bytes_at (a ++ putB 2 1 ++ putB s.size 1) s.data.toList c
    rw [show a ++ putB 2 1 ++ (putB s.size 1 ++ s.data.toList ++ c) = a ++ (putB 2 1 ++ (putB s.size 1 ++ s.data.toList)) ++ c by simp] at t1
    rw [show a ++ putB 2 1 ++ putB s.size 1 ++ (s.data.toList ++ c) = a ++ (putB 2 1 ++ (putB s.size 1 ++ s.data.toList)) ++ c by simp, List.length_append, putB_len] at t2
    rw [show a ++ putB 2 1 ++ putB s.size 1 ++ s.data.toList ++ c = a ++ (putB 2 1 ++ (putB s.size 1 ++ s.data.toList)) ++ c by simp, List.length_append, List.length_append, putB_len, putB_len, data_len] at t3
    unfold rdVal
    rw [t1]
    simp only [if_neg (show ¬ (2 : Nat) = 1 by decide), if_true]
    rw [t2]
    simp only
    rw [t3, bs_of]
    simp only [List.length_append, putB_len, data_len]
    congr 1
    omega

theorem rdLoop_at : ∀ (r : List V) (a : List UInt8) (out : List V), r.all may = true → (∀ v ∈ r, -9223372036854775808 ≤ v.n ∧ v.n ≤ 9223372036854775807) →
    rdLoop (bs (a ++ r.flatMap encV)) r.length a.length 0 out = ((a ++ r.flatMap encV).length, 0, out ++ r)
  | [], a, out, _, _ => by simp [rdLoop]
  | v :: r, a, out, hm, hw => by
    simp only [List.all_cons, Bool.and_eq_true] at hm
    have t := rdVal_at a (r.flatMap encV) v hm.1 (hw v (by simp)).1 (hw v (by simp)).2
    have ih := rdLoop_at r (a ++ encV v) (out ++ [v]) hm.2 (fun x hx => hw x (by simp [hx]))
    rw [List.length_cons, rdLoop, if_pos rfl]
    simp only [List.flatMap_cons]
    rw [← List.append_assoc, t]
    simp only
    rw [List.length_append] at ih
    rw [ih]
    simp

theorem vals_row (l : List V) (hr : (rowE l).2 = 0) (hw : ∀ v ∈ l, -9223372036854775808 ≤ v.n ∧ v.n ≤ 9223372036854775807) : valsE (bs (rowE l).1) = (l, 0) := by
  have hlen : ¬ (l.length < 1 ∨ 4 < l.length) := by
    intro h; unfold rowE at hr; rw [if_pos h] at hr; exact absurd hr (by decide)
  have hall : l.all may = true := by
    cases h : l.all may
    · unfold rowE at hr; rw [if_neg hlen, if_neg (by rw [h]; decide)] at hr; exact absurd hr (by decide)
    · rfl
  have h60 : ¬ 60 < (rowB l).length := by
    intro h; unfold rowE at hr; rw [if_neg hlen, if_pos hall, if_pos h] at hr; exact absurd hr (by decide)
  have e : rowE l = (rowB l, 0) := by unfold rowE; rw [if_neg hlen, if_pos hall, if_neg h60]
  have t := num_at [] (l.flatMap encV) l.length 1 (by omega)
  have t' : numS (bs (rowB l)) 0 0 1 = (1, 0, l.length) := by simpa [rowB] using t
  have q := rdLoop_at l (putB l.length 1) [] hall hw
  rw [putB_len] at q
  have v : valsL (bs (rowB l)) = ((rowB l).length, 0, l) := by
    unfold valsL
    rw [t']
    simpa [rowB] using q
  rw [e]
  simp only
  unfold valsE
  rw [v]
  simp only
  rw [if_neg (by rw [e]; simp [bs_size])]
end Go.Proofs.YtdpipfifoinncaaDoor
