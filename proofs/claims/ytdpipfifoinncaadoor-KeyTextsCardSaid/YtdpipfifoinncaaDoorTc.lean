import Derived.Test.YtdpipfifoinncaaDoorTb
import Derived.Lib.IndexBytes
namespace Go.Proofs.YtdpipfifoinncaaDoor
open Go.RowKit
set_option linter.unusedVariables false

def refK (neg : Bool) (m : List UInt8) : Int := if neg then (m.drop 1).foldl (stepR true) 0 else m.foldl (stepR false) 0
theorem refK_in (neg : Bool) (m : List UInt8) : inR (refK neg m) := by
  unfold refK
  split
  · exact fold_in _ _ _ (by unfold inR; omega)
  · exact fold_in _ _ _ (by unfold inR; omega)
theorem refK_all (l : List UInt8) (neg : Bool) (h : neg = true ↔ l.head? = some 45) : refK neg l = refN l := by
  unfold refK refN
  cases neg
  · rw [if_neg (by simp), if_neg (fun e => by simpa using h.2 e)]
  · rw [if_pos rfl, if_pos (h.1 rfl)]
theorem take_next (s : ByteArray) (k : Nat) (h : k < s.size) : s.data.toList.take (k + 1) = s.data.toList.take k ++ [s[k]] := by
  rw [List.take_succ_eq_append_getElem (by simpa using h)]; rfl
theorem refK_next (neg : Bool) (s : ByteArray) (k : Nat) (h : k < s.size) (hk : neg = true → 0 < k) : refK neg (s.data.toList.take (k + 1)) = stepR neg (refK neg (s.data.toList.take k)) s[k] := by
  rw [take_next s k h]
  unfold refK
  cases neg
  · simp only [Bool.false_eq_true, if_false, List.foldl_append, List.foldl_cons, List.foldl_nil]
  · have hl : 1 ≤ (s.data.toList.take k).length := by rw [List.length_take, data_len]; have := hk rfl; omega
    simp only [if_true]
    rw [List.drop_append_of_le_length hl, List.foldl_append]
    rfl
theorem refK_one (l : List UInt8) : refK true (l.take 1) = 0 := by
  unfold refK
  rw [if_pos rfl, List.drop_eq_nil_of_le (by rw [List.length_take]; omega)]
  rfl
/-- Bytes that no number is told as. -/
theorem none_byte (s : ByteArray) (k : Nat) (h : k < s.size) (hd : ¬ isDg s[k]) (h0 : ¬ (k = 0 ∧ s[k] = 45)) : ∀ n, inR n → Lib.itoa n ≠ s.data.toList := by
  intro n _ e
  rcases itoa_byte n k s[k] (by rw [e]; exact Lib.data_getElem? s k h) with hx | hx
  · exact hd hx
  · exact h0 hx
theorem none_long (s : ByteArray) (h : 20 < s.size) : ∀ n, inR n → Lib.itoa n ≠ s.data.toList := by
  intro n hn e
  have := itoa_le n hn
  rw [e, data_len] at this
  omega
/-- What the number that was reckoned is told as decides. -/
theorem by_num (l : List UInt8) (h45 : l ≠ [45]) (h39 : l.head? ≠ some 39) : parseE l = if Lib.itoa (refN l) = l then (⟨1, refN l, ⟨#[]⟩⟩, 0) else (v0, 110) := by
  by_cases h : Lib.itoa (refN l) = l
  · rw [if_pos h]
    exact parseE_num l _ (refN_in l) h
  · rw [if_neg h]
    refine parseE_none l h45 h39 fun n hn e => h ?_
    rw [← e, refN_itoa n hn]

/-- The number reckoned, its text, and what comes of it. -/
theorem end_of (s : ByteArray) (Q : V × Int) (h : Q = if Lib.itoa (refN s.data.toList) = s.data.toList then (⟨1, refN s.data.toList, ⟨#[]⟩⟩, 0) else (v0, 110)) :
    ∃ (f : Int) (T : ByteArray), f = refN s.data.toList ∧ inR f ∧ T = bs (Lib.itoa f) ∧ (((T.toList == s.toList) = true ∧ Q = (⟨1, f, ⟨#[]⟩⟩, 0)) ∨ ((T.toList == s.toList) = false ∧ Q = (v0, 110))) := by
  refine ⟨_, _, rfl, refN_in _, rfl, ?_⟩
  have e : (bs (Lib.itoa (refN s.data.toList))).toList = Lib.itoa (refN s.data.toList) := Lib.toList_data _
  rw [e, Lib.toList_data s]
  by_cases hq : Lib.itoa (refN s.data.toList) = s.data.toList
  · rw [if_pos hq] at h
    exact .inl ⟨by simpa using hq, h⟩
  · rw [if_neg hq] at h
    exact .inr ⟨by simpa using hq, h⟩

set_option maxRecDepth 100000 in
set_option maxHeartbeats 1600000 in
theorem RParse_any (s : ByteArray) (w : World) (hs : s.size ≤ 9223372036854775000) : Calls Tryd.prog 5 #[.string s] w fun e w' => e = .returned (.tuple #[vv (parseE s.data.toList).1, .int .i64 (parseE s.data.toList).2]) ∧ Below w.heap.size w w' := by
  obtain ⟨Q, hQ⟩ : ∃ Q, Q = parseE s.data.toList := ⟨_, rfl⟩
  rw [← hQ]
  have htl := Lib.toList_data s
  have hz0 : ∀ h : 0 < s.size, s.data.toList.head? = some s[0] := fun h => by rw [List.head?_eq_getElem?]; exact Lib.data_getElem? s 0 h
  have hB0 : ∀ o, Below w.heap.size w (w.alloc o) := fun o => (Below.refl _ _).alloc (Nat.le_refl _) _
  by_cases h45 : s.data.toList = [45]
  · rw [h45, parseE_line] at hQ
    have hb : (s.toList == [45]) = true := by rw [htl, h45]; rfl
    have HQ := Lib.hid hQ
    clear hQ htl hz0 h45
    go_enter Tryd.func5, Tryd.ntmps5
    go_wp2_with fail
    try simp only [Exit.inBlock, Exit.then]
    refine bodyPost_ret (v := .tuple #[vv v0, .int .i64 0]) ?_ rfl ⟨by rw [HQ.out], hB0 _⟩
    rw [results_cell_tmp rfl]
    go_simp
    rfl
  · have hb : (s.toList == [45]) = false := by rw [htl]; simpa using h45
    by_cases h39 : s.data.toList.head? = some 39
    · have hz : 0 < s.size := by
        rcases Nat.eq_zero_or_pos s.size with h | h
        · rw [← data_len, List.length_eq_zero_iff] at h
          rw [h] at h39
          simp at h39
        · exact h
      have h0 := hz0 hz
      rw [h39] at h0
      have hq : ((s[0].toNat : Int) == 39) = true := by
        injection h0 with h0
        rw [← h0]
        rfl
      rw [parseE_text _ h39, data_len] at hQ
      by_cases h21 : s.size ≤ 21
      · rw [if_pos h21] at hQ
        have hd : decide ((21 : Int) < (s.size : Int)) = false := by simp; omega
        have hx : s.extract 1 s.size = bs (s.data.toList.drop 1) := by rw [Lib.extract_eq, List.take_of_length_le (by rw [List.length_drop, data_len]; omega)]; rfl
        have HQ := Lib.hid hQ
        have HX := Lib.hid hx
        clear hQ hx htl hz0 h45 h39 h0
        go_enter Tryd.func5, Tryd.ntmps5
        go_wp2_with fail
        try simp only [Exit.inBlock, Exit.then]
        refine bodyPost_ret (v := .tuple #[vv ⟨2, 0, s.extract 1 s.size⟩, .int .i64 0]) ?_ rfl ⟨by rw [HQ.out, HX.out], hB0 _⟩
        rw [results_cell_tmp rfl]
        go_simp
        rfl
      · rw [if_neg h21] at hQ
        have hd : decide ((21 : Int) < (s.size : Int)) = true := by simp; omega
        have HQ := Lib.hid hQ
        clear hQ htl hz0 h45 h39 h0
        go_enter Tryd.func5, Tryd.ntmps5
        go_wp2_with fail
        try simp only [Exit.inBlock, Exit.then]
        refine bodyPost_ret (v := .tuple #[vv v0, .int .i64 110]) ?_ rfl ⟨by rw [HQ.out], hB0 _⟩
        rw [results_cell_tmp rfl]
        go_simp
        rfl
    · have hnum := by_num _ h45 h39
      have hnone := parseE_none _ h45 h39
      rw [← hQ] at hnum hnone
      have HNUM := Lib.hid hnum
      have HNONE := Lib.hid hnone
      obtain ⟨neg, hneg⟩ : ∃ neg : Bool, neg = true ↔ s.data.toList.head? = some 45 := ⟨decide (s.data.toList.head? = some 45), by simp⟩
      have hall := refK_all _ neg hneg
      have HALL := Lib.hid hall
      have h39' : ∀ h : 0 < s.size, ((s[0].toNat : Int) == 39) = false := fun h => by
        rw [hz0 h] at h39
        have : ¬ s[0].toNat = 39 := fun e => h39 (by rw [UInt8.toNat_inj.1 (show s[0].toNat = (39 : UInt8).toNat from e)])
        simpa using (by omega : ¬ (s[0].toNat : Int) = 39)
      have h45' : ∀ h : 0 < s.size, ((s[0].toNat : Int) == 45) = neg := fun h => by
        rw [hz0 h] at hneg
        cases neg
        · have : ¬ s[0].toNat = 45 := fun e => by simpa using hneg.2 (by rw [UInt8.toNat_inj.1 (show s[0].toNat = (45 : UInt8).toNat from e)])
          simpa using (by omega : ¬ (s[0].toNat : Int) = 45)
        · have := hneg.1 rfl
          injection this with this
          rw [this]
          rfl
      have H39 := Lib.hid h39'
      have H45 := Lib.hid h45'
      clear hnum hnone hneg hall h39' h45' hz0 h39 h45 hQ htl
      by_cases hz : 0 < s.size
      · have g39 := H39.out hz
        have g45 := H45.out hz
        have gz : decide ((0 : Int) < (s.size : Int)) = true := decide_eq_true (by omega)
        go_enter Tryd.func5, Tryd.ntmps5
        go_wp2_with fail
        go_loop [4, 5] (fun n i => ∃ k : Nat, k ≤ s.size ∧ i = .int .i64 k ∧ n = .int .i64 (refK neg (s.data.toList.take k))) (fun _ i => s.size - (intOf i).toNat)
        case atStart => exact ⟨0, by omega, rfl, by cases neg <;> rfl⟩
        case round =>
          obtain ⟨k, hk, rfl, rfl⟩ := hrel
          by_cases hlt : k < s.size
          · obtain ⟨f, hf⟩ : ∃ f, refK neg (s.data.toList.take k) = f := ⟨_, rfl⟩
            have hnx := refK_next neg s k hlt
            rw [hf] at hnx
            have HNX := Lib.hid hnx
            have HF := Lib.hid hf
            clear hnx
            rw [hf]
            clear hf
            have i1 : (0 : Int) ≤ (k : Int) := by omega
            have i2 : (k : Int) < (s.size : Int) := by omega
            have hit : decide ((k : Int) < (s.size : Int)) = true := decide_eq_true i2
            by_cases h0 : k = 0 ∧ neg = true
            · obtain ⟨rfl, rfl⟩ := h0
              have H1 := Lib.hid (refK_one s.data.toList)
              have H0 := Lib.hid (HF.out.symm.trans (show refK true (s.data.toList.take 0) = 0 from rfl))
              clear HNX HF
              go_wp2_with fail
              go_round
              case rel => exact ⟨1, by omega, rfl, by rw [H1.out, H0.out]⟩
              case measure => simp [intOf] <;> omega
            · by_cases hk0 : k = 0
              · have hn : neg = false := by cases neg <;> simp_all
                subst hk0
                subst hn
                clear h0 HF
                by_cases h20 : 20 < s.size
                · have hno := none_long s h20
                  have hd3 : decide ((20 : Int) < (s.size : Int)) = true := decide_eq_true (by omega)
                  by_cases hb48 : s[0].toNat < 48
                  · have hd1 : decide ((s[0].toNat : Int) < 48) = true := decide_eq_true (by omega)
                    have HQ := Lib.hid (HNONE.out hno)
                    clear hno
                    go_wp2_with fail
                    try simp only [Exit.inBlock, Exit.then]
                    refine bodyPost_ret (v := .tuple #[vv v0, .int .i64 110]) ?_ rfl ⟨by rw [HQ.out], hB0 _⟩
                    rw [results_cell_tmp rfl]
                    go_simp
                    rfl
                  · have hd1 : decide ((s[0].toNat : Int) < 48) = false := decide_eq_false (by omega)
                    by_cases hb57 : 57 < s[0].toNat
                    · have hd2 : decide ((57 : Int) < (s[0].toNat : Int)) = true := decide_eq_true (by omega)
                      have HQ := Lib.hid (HNONE.out hno)
                      clear hno
                      go_wp2_with fail
                      try simp only [Exit.inBlock, Exit.then]
                      refine bodyPost_ret (v := .tuple #[vv v0, .int .i64 110]) ?_ rfl ⟨by rw [HQ.out], hB0 _⟩
                      rw [results_cell_tmp rfl]
                      go_simp
                      rfl
                    · have hd2 : decide ((57 : Int) < (s[0].toNat : Int)) = false := decide_eq_false (by omega)
                      have HQ := Lib.hid (HNONE.out hno)
                      clear hno
                      go_wp2_with fail
                      try simp only [Exit.inBlock, Exit.then]
                      refine bodyPost_ret (v := .tuple #[vv v0, .int .i64 110]) ?_ rfl ⟨by rw [HQ.out], hB0 _⟩
                      rw [results_cell_tmp rfl]
                      go_simp
                      rfl
                · have hd3 : decide ((20 : Int) < (s.size : Int)) = false := decide_eq_false (by omega)
                  by_cases hb48 : s[0].toNat < 48
                  · have hno := none_byte s 0 hlt (by unfold isDg; omega) (fun h => by have := g45; rw [h.2] at this; simp at this)
                    have hd1 : decide ((s[0].toNat : Int) < 48) = true := decide_eq_true (by omega)
                    have HQ := Lib.hid (HNONE.out hno)
                    clear hno
                    go_wp2_with fail
                    try simp only [Exit.inBlock, Exit.then]
                    refine bodyPost_ret (v := .tuple #[vv v0, .int .i64 110]) ?_ rfl ⟨by rw [HQ.out], hB0 _⟩
                    rw [results_cell_tmp rfl]
                    go_simp
                    rfl
                  · have hd1 : decide ((s[0].toNat : Int) < 48) = false := decide_eq_false (by omega)
                    by_cases hb57 : 57 < s[0].toNat
                    · have hno := none_byte s 0 hlt (by unfold isDg; omega) (fun h => by have := g45; rw [h.2] at this; simp at this)
                      have hd2 : decide ((57 : Int) < (s[0].toNat : Int)) = true := decide_eq_true (by omega)
                      have HQ := Lib.hid (HNONE.out hno)
                      clear hno
                      go_wp2_with fail
                      try simp only [Exit.inBlock, Exit.then]
                      refine bodyPost_ret (v := .tuple #[vv v0, .int .i64 110]) ?_ rfl ⟨by rw [HQ.out], hB0 _⟩
                      rw [results_cell_tmp rfl]
                      go_simp
                      rfl
                    · have hd2 : decide ((57 : Int) < (s[0].toNat : Int)) = false := decide_eq_false (by omega)
                      have c1 : 48 ≤ s[0].toNat := by omega
                      have c2 : s[0].toNat ≤ 57 := by omega
                      clear hb48 hb57 h20 HNONE HALL H39 H45 HNUM
                      go_wp2_with fail
                      go_round
                      case rel =>
                        refine ⟨1, by omega, rfl, ?_⟩
                        rw [HNX.out (by simp)]
                        simp [stepR]
                      case measure => simp [intOf] <;> omega
              · have hk1 : ((k : Int) == 0) = false := by simpa using hk0
                have HK := Lib.hid hk0
                clear h0
                clear HF
                by_cases h20 : 20 < s.size
                · have hno := none_long s h20
                  have hd3 : decide ((20 : Int) < (s.size : Int)) = true := decide_eq_true (by omega)
                  by_cases hb48 : s[k].toNat < 48
                  · have hd1 : decide ((s[k].toNat : Int) < 48) = true := decide_eq_true (by omega)
                    have HQ := Lib.hid (HNONE.out hno)
                    clear hno
                    go_wp2_with fail
                    try simp only [Exit.inBlock, Exit.then]
                    refine bodyPost_ret (v := .tuple #[vv v0, .int .i64 110]) ?_ rfl ⟨by rw [HQ.out], hB0 _⟩
                    rw [results_cell_tmp rfl]
                    go_simp
                    rfl
                  · have hd1 : decide ((s[k].toNat : Int) < 48) = false := decide_eq_false (by omega)
                    by_cases hb57 : 57 < s[k].toNat
                    · have hd2 : decide ((57 : Int) < (s[k].toNat : Int)) = true := decide_eq_true (by omega)
                      have HQ := Lib.hid (HNONE.out hno)
                      clear hno
                      go_wp2_with fail
                      try simp only [Exit.inBlock, Exit.then]
                      refine bodyPost_ret (v := .tuple #[vv v0, .int .i64 110]) ?_ rfl ⟨by rw [HQ.out], hB0 _⟩
                      rw [results_cell_tmp rfl]
                      go_simp
                      rfl
                    · have hd2 : decide ((57 : Int) < (s[k].toNat : Int)) = false := decide_eq_false (by omega)
                      have HQ := Lib.hid (HNONE.out hno)
                      clear hno
                      go_wp2_with fail
                      try simp only [Exit.inBlock, Exit.then]
                      refine bodyPost_ret (v := .tuple #[vv v0, .int .i64 110]) ?_ rfl ⟨by rw [HQ.out], hB0 _⟩
                      rw [results_cell_tmp rfl]
                      go_simp
                      rfl
                · have hd3 : decide ((20 : Int) < (s.size : Int)) = false := decide_eq_false (by omega)
                  by_cases hb48 : s[k].toNat < 48
                  · have hno := none_byte s k hlt (by unfold isDg; omega) (fun h => HK.out h.1)
                    have hd1 : decide ((s[k].toNat : Int) < 48) = true := decide_eq_true (by omega)
                    have HQ := Lib.hid (HNONE.out hno)
                    clear hno
                    go_wp2_with fail
                    try simp only [Exit.inBlock, Exit.then]
                    refine bodyPost_ret (v := .tuple #[vv v0, .int .i64 110]) ?_ rfl ⟨by rw [HQ.out], hB0 _⟩
                    rw [results_cell_tmp rfl]
                    go_simp
                    rfl
                  · have hd1 : decide ((s[k].toNat : Int) < 48) = false := decide_eq_false (by omega)
                    by_cases hb57 : 57 < s[k].toNat
                    · have hno := none_byte s k hlt (by unfold isDg; omega) (fun h => HK.out h.1)
                      have hd2 : decide ((57 : Int) < (s[k].toNat : Int)) = true := decide_eq_true (by omega)
                      have HQ := Lib.hid (HNONE.out hno)
                      clear hno
                      go_wp2_with fail
                      try simp only [Exit.inBlock, Exit.then]
                      refine bodyPost_ret (v := .tuple #[vv v0, .int .i64 110]) ?_ rfl ⟨by rw [HQ.out], hB0 _⟩
                      rw [results_cell_tmp rfl]
                      go_simp
                      rfl
                    · have hd2 : decide ((57 : Int) < (s[k].toNat : Int)) = false := decide_eq_false (by omega)
                      have c1 : 48 ≤ s[k].toNat := by omega
                      have c2 : s[k].toNat ≤ 57 := by omega
                      clear hb48 hb57 h20 HNONE HALL H39 H45 HNUM
                      cases neg
                      · go_wp2_with fail
                        go_round
                        case rel =>
                          refine ⟨k + 1, by omega, by go_num, ?_⟩
                          rw [HNX.out (by simp)]
                          simp [stepR]
                        case measure => simp [intOf] <;> omega
                      · go_wp2_with fail
                        go_round
                        case rel =>
                          refine ⟨k + 1, by omega, by go_num, ?_⟩
                          rw [HNX.out (fun _ => by have := HK.out; omega)]
                          simp [stepR]
                        case measure => simp [intOf] <;> omega
          · obtain rfl : k = s.size := by omega
            rw [List.take_of_length_le (by rw [data_len]; omega), HALL.out]
            obtain ⟨f, T, hf, hfr, hT, hend⟩ := end_of s Q HNUM.out
            rw [← hf]
            have hdg := digits_any f (w.alloc (.cells #[.int .i64 0, .int .i64 0, .string ⟨#[]⟩] 27)) hfr
            rw [← hT] at hdg
            have HDG := Lib.hid hdg
            clear hf hT hdg hfr
            have hit : decide ((s.size : Int) < (s.size : Int)) = false := decide_eq_false (by omega)
            go_wp2_with fail
            refine HDG.out.mono ?_
            rintro r w1 ⟨rfl, hB1⟩
            have hV1 : w1.heap[w.heap.size]? = some (.cells #[.int .i64 0, .int .i64 0, .string ⟨#[]⟩] 27 (0, 0)) := (hB1.block _ (by simp)).trans (heap_alloc_new w _)
            obtain ⟨z0, z1, z2, zf⟩ := cells3 hV1
            have hB01 : Below w.heap.size w w1 := (hB0 _).trans (hB1.mono (by simp))
            rcases hend with ⟨he, hQ⟩ | ⟨he, hQ⟩
            · have HQ := Lib.hid hQ
              clear hQ
              go_wp2_with fail
              try simp only [Exit.inBlock, Exit.then]
              refine bodyPost_ret (v := .tuple #[vv ⟨1, f, ⟨#[]⟩⟩, .int .i64 0]) ?_ rfl ⟨by rw [HQ.out], below_set3 hB01 (Nat.le_refl _) (.int .i64 1) (.int .i64 f) (.string ⟨#[]⟩)⟩
              rw [results_cell_tmp rfl]
              go_simp
              rfl
            · have HQ := Lib.hid hQ
              clear hQ
              go_wp2_with fail
              try simp only [Exit.inBlock, Exit.then]
              refine bodyPost_ret (v := .tuple #[vv v0, .int .i64 110]) ?_ rfl ⟨by rw [HQ.out], below_set3 hB01 (Nat.le_refl _) (.int .i64 0) (.int .i64 0) (.string ⟨#[]⟩)⟩
              rw [results_cell_tmp rfl]
              go_simp
              rfl
      · have gz : decide ((0 : Int) < (s.size : Int)) = false := decide_eq_false (by omega)
        go_enter Tryd.func5, Tryd.ntmps5
        go_wp2_with fail
        have hl : s.data.toList = [] := List.eq_nil_of_length_eq_zero (by rw [data_len]; omega)
        have hQ := HNUM.out
        rw [hl, if_neg (by obtain ⟨c, r, e, _⟩ := itoa_head (refN []); rw [e]; simp)] at hQ
        have hq : ((bs (Lib.itoa 0)).toList == s.toList) = false := by
          rw [Lib.toList_data s, hl, itoa_zero, Lib.toList_data]
          rfl
        have hdg := digits_any 0 (w.alloc (.cells #[.int .i64 0, .int .i64 0, .string ⟨#[]⟩] 27)) (by unfold inR; omega)
        generalize bs (Lib.itoa 0) = T at hq hdg
        have HDG := Lib.hid hdg
        have HQ := Lib.hid hQ
        clear hl hQ hdg HNUM HNONE HALL H39 H45
        go_loop [4, 5] (fun n i => n = .int .i64 0 ∧ i = .int .i64 0) (fun _ _ => 0)
        case atStart => exact ⟨rfl, rfl⟩
        case round =>
          obtain ⟨rfl, rfl⟩ := hrel
          go_wp2_with fail
          refine HDG.out.mono ?_
          rintro r w1 ⟨rfl, hB1⟩
          have hV1 : w1.heap[w.heap.size]? = some (.cells #[.int .i64 0, .int .i64 0, .string ⟨#[]⟩] 27 (0, 0)) := (hB1.block _ (by simp)).trans (heap_alloc_new w _)
          obtain ⟨z0, z1, z2, zf⟩ := cells3 hV1
          have hB01 : Below w.heap.size w w1 := (hB0 _).trans (hB1.mono (by simp))
          go_wp2_with fail
          try simp only [Exit.inBlock, Exit.then]
          refine bodyPost_ret (v := .tuple #[vv v0, .int .i64 110]) ?_ rfl ⟨by rw [HQ.out], below_set3 hB01 (Nat.le_refl _) (.int .i64 0) (.int .i64 0) (.string ⟨#[]⟩)⟩
          rw [results_cell_tmp rfl]
          go_simp
          rfl
end Go.Proofs.YtdpipfifoinncaaDoor
