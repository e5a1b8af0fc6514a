import Derived.Test.YtcdlplbccblbaaaGreatMg46
import Derived.Deep.DeepCutAuto
import Derived.Deep.CutBlock
import Derived.Deep.Light
namespace Go.Proofs.YtcdlplbccblbaaaGreat
open Go.RowKit
set_option linter.unusedVariables false
set_option linter.unusedSimpArgs false

/-! ### Both tables under way -/
structure St (i : Nat) (L : List (Nm × List Ak)) (W : List (Int × Nm)) (M : List (Nm × List Ak)) : Prop where
  eq : EQ M L
  ti : TI L W nobody
  ni : NI L
  fits : Fits i L
  wl : W.length ≤ i
section
variable {i : Nat} {L L' M : List (Nm × List Ak)} {W : List (Int × Nm)}
theorem St.nil : St 0 [] [] [] := ⟨EQ.nil, TI.start, fun n => noI.nil, ⟨by simp, by simp⟩, by simp⟩
theorem St.rel (h : St i L W M) (tx : Int) : St (i + 1) (rel tx L W).L (rel tx L W).W (relM tx M).M ∧ (rel tx L W).out = (relM tx M).out := by
  obtain ⟨h1, h2, h3⟩ := rel_same (W := W) h.eq h.ni tx
  have := rel_wlen (L := L) (W := W) tx
  have := h.wl
  exact ⟨⟨h1, h.ti.rel tx, h3, (h.fits.rel tx W).mono (by omega), by omega⟩, h2.symm⟩
theorem St.can (h : St i L W M) (tx : Int) : St (i + 1) (can tx L W).L (can tx L W).W (canM tx M).M ∧ (can tx L W).out = (canM tx M).out := by
  obtain ⟨h1, h2, h3⟩ := can_same h.eq h.ti h.ni tx
  have := can_wlen (L := L) (W := W) tx
  have := h.wl
  exact ⟨⟨h1, h.ti.can tx, h3, (can_fits (W := W) h.fits tx).mono (by omega), by omega⟩, h2.symm⟩
theorem St.ask (h : St i L W M) {tx : Int} (ht : tx ≤ 9223372036854775807) (n : Nm) (md : Int) (inst wt : Bool) : St (i + 1) (ask L W tx n md inst wt).L (ask L W tx n md inst wt).W (askM M tx n md inst wt).M ∧
    (ask L W tx n md inst wt).had = (askM M tx n md inst wt).had ∧ (ask L W tx n md inst wt).err = (askM M tx n md inst wt).err := by
  obtain ⟨h1, h2, h3, h4⟩ := ask_same h.eq h.ti h.ni tx n md inst wt
  have hw := ask_wlen (L := L) (W := W) tx n md inst wt
  have := h.wl
  refine ⟨⟨h3, ?_, h4, ask_fits h.fits W tx n md inst wt, by omega⟩, h1, h2⟩
  by_cases h0 : 1 ≤ tx
  · exact h.ti.ask ⟨h0, ht⟩ n md inst wt
  · unfold Go.Proofs.YtcdlplbccblbaaaGreat.ask
    rw [if_pos (.inl (by omega))]
    exact h.ti
theorem St.perm (h : St i L W M) (hp : L'.Perm L) : St i L' W M := by
  have h' := h.eq.of_perm hp
  have e : ∀ n, qL L' n = qL L n := fun n => (h'.q n).symm.trans (h.eq.q n)
  exact ⟨h', h.ti.of_perm h.eq hp, fun n => by rw [e]; exact h.ni n, ⟨by rw [hp.length_eq]; exact h.fits.1, fun p hpp => h.fits.2 p (hp.mem_iff.1 hpp)⟩, h.wl⟩
theorem St.succ (h : St i L W M) : St (i + 1) L W M := ⟨h.eq, h.ti, h.ni, h.fits.mono (by omega), by have := h.wl; omega⟩
theorem St.fit (h : St i L W M) (hi : i ≤ 60) : Fits 1000 L := h.fits.mono (by omega)
theorem St.mb (h : St i L W M) (hi : i ≤ 60) : Mb 200 M := h.eq.mb h.fits (by omega)
theorem St.okm (h : St i L W M) (n : Nm) (tx : Int) : okm (hasQ (qL M n) tx) = true := by
  rw [h.eq.q]
  have hq := (h.ti.qp n).ok
  unfold hasQ
  split
  · rfl
  · have h12 := (hq.getD ‹Nat›).1
    generalize ((qL L n).getD ‹Nat› ⟨0, 0, 0, false⟩).has = x at h12 ⊢
    obtain ⟨h1, h2⟩ := h12
    unfold Go.Proofs.YtcdlplbccblbaaaGreat.okm isMode
    by_cases e : x = 0
    · simp [e]
    · simp
      omega
end

theorem keeps_frame {B : Nat} {w w' : World} {T QB WB : Nat} {R : List Row} {W : List (Int × Nm)} (ht : Tab w T QB WB R W) (hf : ∀ k, Foot T QB WB R k → B ≤ k) (hk : Keeps w w' (fun k => Foot T QB WB R k ∨ w.heap.size ≤ k)) : Frame B w w' := by
  have hBl : B ≤ w.heap.size := Nat.le_of_lt (Nat.lt_of_le_of_lt (hf T (.inl rfl)) ht.head.lt)
  refine ⟨hk.below hBl (fun k hk' hf2 => ?_), fun k t cs h1 h2 hb => hb.of_block (hk.block k hb.lt (fun h => ?_))⟩
  · rcases hf2 with h | h
    · have := hf k h; omega
    · omega
  · rcases h with h | h
    · exact ht.not_foot hb h1 h2 h
    · have := hb.lt; omega
/-- One act done to both: the same is said. -/
def OneP (B : Nat) (w : World) (i : Nat) (e : Ending) (w' : World) : Prop :=
  ∃ (T' QB' WB' : Nat) (L' : List (Nm × List Ak)) (W' : List (Int × Nm)) (M' : List (Nm × List Ak)) (v' : Value), e = .returned (.tuple #[.pointer (some ⟨T', 0, none⟩), v', .bool true]) ∧ TA B w' T' QB' WB' L' W' ∧ RT w' v' M' ∧ St i L' W' M' ∧ Below B w w'

set_option maxRecDepth 100000 in
set_option maxHeartbeats 4000000 in
theorem one_any {w : World} {B T QB WB i : Nat} {L M : List (Nm × List Ak)} {W : List (Int × Nm)} {v : Value} {kd tx nn md : Int} (hTA : TA B w T QB WB L W) (hRT : RT w v M) (hS : St i L W M) (hi : i < 60) (htx : tx ≤ 9223372036854775807) :
    Calls Tryz.prog 6 #[.pointer (some ⟨T, 0, none⟩), v, .agg #[.int .i64 kd, .int .i64 tx, .int .i64 nn, .int .i64 md]] w (OneP B w (i + 1)) := by
  obtain ⟨w2, hw2⟩ : ∃ w2, w2 = w.alloc (.cells #[.int .i64 kd, .int .i64 tx, .int .i64 nn, .int .i64 md] 31) := ⟨_, rfl⟩
  have hlt := hTA.lt
  have hB2 : Below w.heap.size w w2 := by rw [hw2]; exact (Below.refl _ _).alloc (Nat.le_refl _) _
  have hba : Blk w2 w.heap.size 31 #[.int .i64 kd, .int .i64 tx, .int .i64 nn, .int .i64 md] := by rw [hw2]; exact Blk.new _ _ _
  have HW2 := Lib.hid hw2
  clear hw2
  go_enter Tryz.func6, Tryz.ntmps6
  go_upto_region 1 with fail
  rw [← HW2.out]
  have z0 := hba.cell 0
  have z1 := hba.cell 1
  have z2 := hba.cell 2
  have z3 := hba.cell 3
  simp at z0 z1 z2 z3
  go_wp2_with fail
  refine (name_any nn _).mono ?_
  rintro e w3 ⟨rfl, hB3⟩
  have hba3 := hba.of_block (hB3.block _ hba.lt)
  obtain ⟨nm, hnm⟩ : ∃ nm, nm = nmA nn := ⟨_, rfl⟩
  rw [← hnm]
  obtain ⟨k, o, p, s⟩ := nm
  clear hnm z0 z1 z2 z3
  obtain ⟨w4, hw4⟩ : ∃ w4, w4 = (w3.alloc (.cells #[.int .i64 k, .int .i64 o, .int .u32 p, .int .i64 s] 46)).alloc (.cells #[.int .i64 k, .int .i64 o, .int .u32 p, .int .i64 s] 49) := ⟨_, rfl⟩
  have hB4 : Below w3.heap.size w3 w4 := by rw [hw4]; exact ((Below.refl _ _).alloc (Nat.le_refl _) _).alloc (by simp) _
  have hB34 := hB3.trans (hB4.mono hB3.size)
  have hBw4 : Below w.heap.size w w4 := hB2.trans (hB34.mono hB2.size)
  have hTA4 := hTA.below hBw4
  have hRT4 := hRT.below hBw4
  have hbn : Blk w4 w3.heap.size 46 #[.int .i64 k, .int .i64 o, .int .u32 p, .int .i64 s] := by rw [hw4]; exact (Blk.new w3 _ _).alloc _
  have hbk : Blk w4 (w3.heap.size + 1) 49 #[.int .i64 k, .int .i64 o, .int .u32 p, .int .i64 s] := by
    rw [hw4]
    have := Blk.new (w3.alloc (.cells #[.int .i64 k, .int .i64 o, .int .u32 p, .int .i64 s] 46)) 49 #[.int .i64 k, .int .i64 o, .int .u32 p, .int .i64 s]
    simpa using this
  have hba4 := hba3.of_block (hB4.block _ hba3.lt)
  obtain ⟨NB, hNB⟩ : ∃ NB, NB = w3.heap.size := ⟨_, rfl⟩
  obtain ⟨AB, hAB⟩ : ∃ AB, AB = w.heap.size := ⟨_, rfl⟩
  have hb4 : Below B w w4 := hBw4.mono hlt
  go_upto_region 2 with fail
  rw [← hw4, ← hNB, ← hAB]
  rw [← hNB] at hbn hbk
  rw [← hAB] at hba4
  have z0 := hba4.cell 0
  have z1 := hba4.cell 1
  simp at z0 z1
  have hfit := hS.fit (by omega)
  have HS := Lib.hid hS
  have HW := Lib.hid (fun tx n => hS.ti.waitsIn tx n)
  have hnd := hS.eq.srt.nodup
  have HND := Lib.hid hnd
  have hMb := hS.mb (by omega)
  have HMB := Lib.hid hMb
  clear hw4 hNB hAB hB4 hba3 hba hB3 hB2 HW2 hTA hRT hB34 hnd hMb hS
  by_cases hk5 : kd = 5
  · have hke : (kd == 5) = true := by simpa using hk5
    clear hk5
    go_wp2_with fail
    refine (release_ta hTA4 hfit tx).mono ?_
    rintro e w5 ⟨v5, rfl, hI5, hTA5, hF5⟩
    have hRT5 := hRT4.frame hF5
    have hba5 := hF5.others _ _ _ (by decide) (by decide) hba4
    have z1 := hba5.cell 1
    simp at z1
    go_wp2_with fail
    refine (rrelease_m hRT5 HMB.out tx).mono ?_
    rintro e w6 ⟨v6, ov, rfl, hRT6, hO6, hB6⟩
    obtain ⟨hS6, hout⟩ := HS.out.rel tx
    have HS6 := Lib.hid hS6
    have hI6 : IO w6 w4.heap.size v5 (rel tx L W).out := IO.below hI5.1 hB6
    have HOUT := Lib.hid hout
    clear hS6 hout
    go_wp2_with fail
    refine (ints_any hI6 hO6).mono ?_
    rintro e w7 ⟨rfl, hB7⟩
    go_wp2_with fail
    refine bodyPost_ret (v := .tuple #[.pointer (some ⟨T, 0, none⟩), v6, .bool (decide ((rel tx L W).out = (relM tx M).out))]) (by simp [results, Tryz.results6, go_sem]) rfl ?_
    refine ⟨T, QB, WB, _, _, _, v6, ?_, (hTA5.below hB6).below hB7, hRT6.below hB7, HS6.out, (hb4.trans hF5.below).trans ((hB6.trans (hB7.mono hB6.size)).mono ?_)⟩
    · rw [decide_eq_true HOUT.out]
    · have h1 := hF5.below.size
      have h2 := hBw4.size
      omega
  have hke5 : (kd == 5) = false := by simpa using hk5
  clear hk5
  by_cases hk6 : kd = 6
  · have hke : (kd == 6) = true := by simpa using hk6
    clear hk6
    go_wp2_with fail
    refine (cancel_ta hTA4 hfit HW.out tx).mono ?_
    rintro e w5 ⟨v5, rfl, hI5, hTA5, hF5⟩
    have hRT5 := hRT4.frame hF5
    have hba5 := hF5.others _ _ _ (by decide) (by decide) hba4
    have z1 := hba5.cell 1
    simp at z1
    go_wp2_with fail
    refine (rcancel_m hRT5 HMB.out HND.out tx).mono ?_
    rintro e w6 ⟨v6, ov, rfl, hRT6, hO6, hB6⟩
    obtain ⟨hS6, hout⟩ := HS.out.can tx
    have HS6 := Lib.hid hS6
    have hI6 : IO w6 w4.heap.size v5 (can tx L W).out := IO.below hI5.1 hB6
    have HOUT := Lib.hid hout
    clear hS6 hout
    go_wp2_with fail
    refine (ints_any hI6 hO6).mono ?_
    rintro e w7 ⟨rfl, hB7⟩
    go_wp2_with fail
    refine bodyPost_ret (v := .tuple #[.pointer (some ⟨T, 0, none⟩), v6, .bool (decide ((can tx L W).out = (canM tx M).out))]) (by simp [results, Tryz.results6, go_sem]) rfl ?_
    refine ⟨T, QB, WB, _, _, _, v6, ?_, (hTA5.below hB6).below hB7, hRT6.below hB7, HS6.out, (hb4.trans hF5.below).trans ((hB6.trans (hB7.mono hB6.size)).mono ?_)⟩
    · rw [decide_eq_true HOUT.out]
    · have h1 := hF5.below.size
      have h2 := hBw4.size
      omega
  have hke6 : (kd == 6) = false := by simpa using hk6
  clear hk6
  by_cases hk7 : kd = 7
  · have hke : (kd == 7) = true := by simpa using hk7
    clear hk7
    go_wp2_with fail
    refine (clone_ta hTA4 (fun p hp => by have := hfit.2 p hp; omega)).mono ?_
    rintro e w5 ⟨T', QB', WB', L', rfl, hTAc, hperm, -, hB5⟩
    obtain ⟨R, ht4, hm, hf⟩ := hTA4
    have ht5 := ht4.below hB5
    have hRT5 := hRT4.below hB5
    have hba5 := hba4.of_block (hB5.block _ hba4.lt)
    have hbn5 := hbn.of_block (hB5.block _ hbn.lt)
    have z1 := hba5.cell 1
    simp at z1
    have HP := Lib.hid hperm
    clear hperm
    go_wp2_with fail
    refine (release_fa (F := fun k => Foot T QB WB R k ∨ w5.heap.size ≤ k) ⟨R, ht5, hm, fun k hk => .inl hk⟩ (fun k hk => .inr hk) hfit tx).mono ?_
    rintro e w6 ⟨v6, rfl, -, hFA6, hK6⟩
    have hF6 := keeps_frame ht5 hf hK6
    have hbn6 := hF6.others _ _ _ (by decide) (by decide) hbn5
    have b0 := hbn6.cell 0
    have b1 := hbn6.cell 1
    have b2 := hbn6.cell 2
    have b3 := hbn6.cell 3
    simp at b0 b1 b2 b3
    have hs6 := hK6.size
    go_wp2_with fail
    refine (ask_fa hFA6 (fun k hk => .inr (by omega)) (hfit.rel tx W) 99 5 k o p s false true).mono ?_
    rintro e w7 ⟨rfl, -, hK7⟩
    have hK : Keeps w5 w7 (fun k => Foot T QB WB R k ∨ w5.heap.size ≤ k) := hK6.trans hK7 (fun _ _ h => h)
    have hF7 := keeps_frame ht5 hf hK
    have HT : Hid (TA B w7 T' QB' WB' L' W) := Lib.hid (by
      obtain ⟨R', htc, hmc, hfc⟩ := hTAc
      have h2 := hBw4.size
      refine ⟨R', htc.of_blocks fun k hk => hK.block k (htc.foot_lt hk) (fun h => ?_), hmc, fun k hk => ?_⟩
      · have h3 := hfc k hk
        have h4 := htc.foot_lt hk
        rcases h with h | h
        · have := ht4.foot_lt h; omega
        · omega
      · have h3 := hfc k hk; omega)
    clear hTAc
    go_wp2_with fail
    refine bodyPost_ret (v := .tuple #[.pointer (some ⟨T', 0, none⟩), v, .bool true]) (by simp [results, Tryz.results6, go_sem]) rfl ?_
    exact ⟨T', QB', WB', L', W, M, v, rfl, HT.out, hRT5.frame hF7, (HS.out.perm HP.out).succ, (hb4.trans (hB5.mono (by have := hBw4.size; omega))).trans hF7.below⟩
  have hke7 : (kd == 7) = false := by simpa using hk7
  clear hk7
  have z2 := hba4.cell 3
  have b0 := hbn.cell 0
  have b1 := hbn.cell 1
  have b2 := hbn.cell 2
  have b3 := hbn.cell 3
  simp at z2 b0 b1 b2 b3
  go_wp2_with fail
  refine (ask_ta hTA4 hfit tx md k o p s (kd == 4) (kd != 3)).mono ?_
  rintro e w5 ⟨rfl, hTA5, hF5⟩
  have hRT5 := hRT4.frame hF5
  have hba5 := hF5.others _ _ _ (by decide) (by decide) hba4
  have hbk5 := hF5.others _ _ _ (by decide) (by decide) hbk
  obtain ⟨hS5, hh, he⟩ := HS.out.ask htx ⟨k, o, p, s⟩ md (kd == 4) (kd != 3)
  rw [hh, he]
  have HS5 := Lib.hid hS5
  have HTA5 := Lib.hid hTA5
  have HOK := Lib.hid (HS.out.okm ⟨k, o, p, s⟩ tx)
  clear hh he hS5 hTA5 z0 z1 z2 b0 b1 b2 b3
  obtain ⟨A, hA⟩ : ∃ A, A = askM M tx ⟨k, o, p, s⟩ md (kd == 4) (kd != 3) := ⟨_, rfl⟩
  rw [← hA]
  have HA := Lib.hid hA
  clear hA
  have z0 := hba5.cell 0
  have z1 := hba5.cell 1
  have z2 := hba5.cell 3
  have b0 := hbk5.cell 0
  have b1 := hbk5.cell 1
  have b2 := hbk5.cell 2
  have b3 := hbk5.cell 3
  simp at z0 z1 z2 b0 b1 b2 b3
  go_wp2_with fail
  refine (rask_m hRT5 (by have := HMB.out.1; omega) HMB.out.2 tx md k o p s (kd == 4) (kd != 3) HOK.out).mono ?_
  rintro e w6 ⟨v6, rfl, hRT6, hB6⟩
  rw [← HA.out] at hRT6 ⊢
  go_wp2_with fail
  refine bodyPost_ret (v := .tuple #[.pointer (some ⟨T, 0, none⟩), v6, .bool true]) (by simp [results, Tryz.results6, go_sem]) rfl ?_
  refine ⟨T, QB, WB, _, _, _, v6, rfl, HTA5.out.below hB6, hRT6, by rw [HA.out]; exact HS5.out, (hb4.trans hF5.below).trans (hB6.mono ?_)⟩
  have h1 := hF5.below.size
  have h2 := hBw4.size
  omega
end Go.Proofs.YtcdlplbccblbaaaGreat
