import Derived.Test.YtdpipfifoinncaaKl
namespace Go.Proofs.Ytdpipfifoinncaa
open Go.RowKit
set_option linter.unusedVariables false

/-- What stands at the end of the reference's loop. -/
structure MidR (s : ByteArray) (w wr : World) (v : Value) (p : Nat) (e : Int) (out : List V) : Prop where
  rd : wr.heap[w.heap.size]? = some (.cells #[.string s, .int .i64 p, .int .i64 e] 57 (0, 0))
  le : p ≤ s.size
  own : VOwn wr 50 w.heap.size v out
  below : Below w.heap.size w wr
theorem two_objs {w w' : World} {o1 o2 : Obj} (hb : Below ((w.alloc o1).alloc o2).heap.size ((w.alloc o1).alloc o2) w') :
    w'.heap[w.heap.size]? = some o1 ∧ w'.heap[w.heap.size + 1]? = some o2 ∧ Below w.heap.size w w' := by
  have e1 : ((w.alloc o1).alloc o2).heap[w.heap.size]? = some o1 := by
    rw [Lib.alloc_old _ _ _ (by simp)]; exact heap_alloc_new w _
  have e2 : ((w.alloc o1).alloc o2).heap[w.heap.size + 1]? = some o2 := by
    have := heap_alloc_new (w.alloc o1) o2
    simpa using this
  refine ⟨(hb.block _ (by simp; omega)).trans e1, (hb.block _ (by simp)).trans e2, ?_⟩
  exact (((Below.refl _ _).alloc (Nat.le_refl _) _).alloc (by simp) _).trans (hb.mono (by simp; omega))
theorem VOwn.far3 {w : World} {t : TypeId} {B : Nat} {v : Value} {l : List V} (h : VOwn w t B v l) {g : Nat} (hg : ∀ k, v.ownBlock = some k → k ≠ g) (a b c : Value) : VOwn (((w.setCell ⟨g, 0, none⟩ a).setCell ⟨g, 1, none⟩ b).setCell ⟨g, 2, none⟩ c) t B v l :=
  ((h.far hg 0 a).far hg 1 b).far hg 2 c
theorem midR_next {s : ByteArray} {w W w5 : World} {p : Nat} {e : Int} {out : List V} {ao : Option Addr} {c : Nat} {v' : Value} {v : V} (hR : W.heap[w.heap.size]? = some (.cells #[.string s, .int .i64 p, .int .i64 e] 57 (0, 0))) (hp : p ≤ s.size)
    (hO : VOwn W 50 w.heap.size (.slice ao out.length c) out) (hB : Below w.heap.size w W) {o : Obj} (hg : (W.alloc o).grownBy w5 (Value.slice ao out.length c).ownBlock)
    (ho : w5.ownsRow w.heap.size 50 3 v' (out.length + 1) (out.flatMap vcells ++ vcells v)) : MidR s w w5 v' p e (out ++ [v]) := by
  have hlt := fun k hk => World.ownsRow.lt hO k hk
  refine ⟨?_, hp, ?_, (hB.alloc hB.size o).grown hg (by have := hB.size; simp; omega) (fun k hk => (hlt k (by first | exact hk | exact hk.symm)).1)⟩
  · have h1 : (W.alloc o).heap[w.heap.size]? = some (.cells #[.string s, .int .i64 p, .int .i64 e] 57 (0, 0)) := (Lib.alloc_old _ _ _ (lt_of_block hR)).trans hR
    refine (hg.block _ (lt_of_block h1) (fun e => ?_)).trans h1
    obtain ⟨hl, ⟨h2, _⟩ | ⟨g, cap, cur, h2, hg', hh, r⟩⟩ := hO
    · rw [h2] at e; simp [Value.ownBlock] at e
    · rw [h2] at e
      simp only [Value.ownBlock, Option.some.injEq] at e
      rw [← e, hR] at hh
      simp at hh
  · unfold VOwn
    rw [List.length_append, ← vc_snoc]
    exact ho
theorem set3 {W : World} {g : Nat} {a b c : Value} {t : TypeId} (h : W.heap[g]? = some (.cells #[a, b, c] t (0, 0))) (a' b' c' : Value) :
    (((W.setCell ⟨g, 0, none⟩ a').setCell ⟨g, 1, none⟩ b').setCell ⟨g, 2, none⟩ c').heap[g]? = some (.cells #[a', b', c'] t (0, 0)) :=
  heap_setCell_same (heap_setCell_same (heap_setCell_same h 0 a') 1 b') 2 c'
theorem far3 (W : World) {g k : Nat} (hk : k ≠ g) (a' b' c' : Value) :
    (((W.setCell ⟨g, 0, none⟩ a').setCell ⟨g, 1, none⟩ b').setCell ⟨g, 2, none⟩ c').heap[k]? = W.heap[k]? := by
  rw [heap_far _ _ _ (show k ≠ (⟨g, 2, none⟩ : Addr).block from hk), heap_far _ _ _ (show k ≠ (⟨g, 1, none⟩ : Addr).block from hk), heap_far _ _ _ (show k ≠ (⟨g, 0, none⟩ : Addr).block from hk)]

set_option maxRecDepth 100000 in
set_option maxHeartbeats 1600000 in
theorem RValues_any (s : ByteArray) (w : World) (hs : s.size ≤ 9223372036854775000) :
    Calls Try.prog 9 #[.string s] w fun e w' => ∃ v, e = .returned (.tuple #[v, .int .i64 (valsE s).2]) ∧ VOwn w' 50 w.heap.size v (valsE s).1 ∧ Below w.heap.size w w' := by
  obtain ⟨i0, hi0, hz0, hz1, hz2⟩ := info_parts infoRVal
  obtain ⟨F, hF⟩ : ∃ F, F = valsL s := ⟨_, rfl⟩
  have hF' : rdLoop s (numS s 0 0 1).2.2 (numS s 0 0 1).1 (numS s 0 0 1).2.1 [] = F := by rw [hF]; rfl
  have hk0 := num_lt s 0 0 1
  have hp0 := num_le s 0 0 1 (Nat.zero_le _)
  have hN0 : ∀ W, Calls Try.prog 26 #[.agg #[.string s, .int .i64 0, .int .i64 0], .int .i64 1] W fun r w' => r = .returned (.tuple #[.agg #[.string s, .int .i64 (numS s 0 0 1).1, .int .i64 (numS s 0 0 1).2.1], .int .u64 (numS s 0 0 1).2.2]) ∧ Below W.heap.size W w' := fun W => RNum_one s 0 0 W hs (Nat.zero_le _)
  obtain ⟨k0, hk⟩ : ∃ k, k = (numS s 0 0 1).2.2 := ⟨_, rfl⟩
  obtain ⟨p0, hp⟩ : ∃ p, p = (numS s 0 0 1).1 := ⟨_, rfl⟩
  obtain ⟨e0, he⟩ : ∃ e, e = (numS s 0 0 1).2.1 := ⟨_, rfl⟩
  rw [← hk, ← hp, ← he] at hF' hN0
  rw [← hk] at hk0
  rw [← hp] at hp0
  have HF := Lib.hid hF
  have HF' := Lib.hid hF'
  have HN0 := Lib.hid hN0
  have hk0 : k0 ≤ 255 := by omega
  have HK := Lib.hid hk
  have HP := Lib.hid hp
  have HE := Lib.hid he
  clear hF hF' hk hp he hN0
  go_enter Try.func9, Try.ntmps9
  go_wp2_with fail
  refine (HN0.out _).mono ?_
  rintro r w1 ⟨rfl, hb1⟩
  obtain ⟨hA, hZ, hB⟩ := two_objs hb1
  obtain ⟨a0, a1, a2, af⟩ := cells3 hA
  have hO1 : VOwn w1 50 w.heap.size (.slice (some ⟨w.heap.size + 1, 0, none⟩) 0 0) [] := ⟨rfl, .inr ⟨w.heap.size + 1, 0, #[], rfl, by omega, hZ, Nat.le_refl _, by simp, rfl, rfl⟩⟩
  have hM0 : MidR s w (((w1.setCell ⟨w.heap.size, 0, none⟩ (.string s)).setCell ⟨w.heap.size, 1, none⟩ (.int .i64 p0)).setCell ⟨w.heap.size, 2, none⟩ (.int .i64 e0)) (.slice (some ⟨w.heap.size + 1, 0, none⟩) 0 0) p0 e0 [] :=
    ⟨set3 hA _ _ _, hp0, hO1.far3 (fun k hk => by simp [Value.ownBlock] at hk; omega) _ _ _, below_set3 hB (Nat.le_refl _) _ _ _⟩
  have HM0 := Lib.hid hM0
  clear hM0
  go_wp2_with fail
  go_loopw [5, 7] (fun v i wr => ∃ (j p : Nat) (e : Int) (out : List V), i = .int .u64 j ∧ j ≤ k0 ∧ MidR s w wr v p e out ∧ out.length ≤ j ∧ rdLoop s (k0 - j) p e out = F) (fun _ i _ => k0 - (intOf i).toNat)
  case atStart => exact ⟨0, p0, e0, [], rfl, Nat.zero_le _, HM0.out, by simp, HF'.out⟩
  case round =>
    obtain ⟨m, p, e, out, rfl, hm, hM, hlen, hrd⟩ := hrel
    have hEnd : (m = k0 ∨ ¬ e = 0) → (p, e, out) = F := by
      rintro (h | h)
      · subst h; rw [Nat.sub_self] at hrd; exact hrd
      · cases hc : k0 - m with
        | zero => rw [hc] at hrd; exact hrd
        | succ j => rw [hc] at hrd; exact rdLoop_no hrd h
    obtain ⟨b0, b1, b2, bf⟩ := cells3 hM.rd
    by_cases hgo : m = k0 ∨ ¬ e = 0
    · have hF2 := Lib.hid (hEnd hgo)
      obtain ⟨ao, c, rfl⟩ := hM.own.slice
      have hRw := RRow_any (cap := c) (by omega) hM.own.at_
      have hve : valsE s = if e ≠ 0 ∨ p ≠ s.size ∨ (rowE out).2 ≠ 0 ∨ bs (rowE out).1 ≠ s then ([], 6) else (out, 0) := by
        have h := hF2.out.trans HF.out
        unfold valsE
        rw [← h]
      obtain ⟨S, hS⟩ : ∃ S, S = bs (rowE out).1 := ⟨_, rfl⟩
      obtain ⟨E, hE⟩ : ∃ E, E = (rowE out).2 := ⟨_, rfl⟩
      rw [← hS, ← hE] at hRw hve
      have HRW := Lib.hid hRw
      have HVE := Lib.hid hve
      have HM := Lib.hid hM
      have HLEN := Lib.hid hlen
      have hsz := hM.below.size
      have hRlt := lt_of_block hM.rd
      have hple := hM.le
      clear hRw hve hM hlen hrd hEnd hS hE
      by_cases hm0 : m = k0
      · clear hgo
        subst hm0
        go_wp2_with fail
        refine HRW.out.mono ?_
        rintro r w3 ⟨rfl, hB3⟩
        have hA3 : w3.heap[w.heap.size]? = some (.cells #[.string s, .int .i64 p, .int .i64 e] 57 (0, 0)) := (hB3.block _ hRlt).trans HM.out.rd
        have hB03 := HM.out.below.trans (hB3.mono hsz)
        have hO3 := HM.out.own.below hB3
        obtain ⟨c0, c1, c2, cf⟩ := cells3 hA3
        clear b0 b1 b2 bf
        by_cases he1 : e = 0
        · by_cases hp1 : p = s.size
          · have hp2 : ((p : Int) != (s.size : Int)) = false := by simp [hp1]
            have hp3 : ((s.size : Int) != (s.size : Int)) = false := by simp
            by_cases hEz : E = 0
            · by_cases hSs : S = s
              · have hv : valsE s = (out, 0) := by
                  have h := HVE.out
                  rw [if_neg (by rintro (h | h | h | h) <;> simp_all)] at h
                  exact h
                have HV := Lib.hid hv
                clear hv
                subst he1 hEz hp1
                go_wp2
                go_ret2
                exact ⟨.slice ao out.length c, by rw [HV.out]; rfl, by rw [HV.out]; exact hO3, hB03⟩
              · have hq1 : (S.toList == s.toList) = false := str_ne hSs
                have hv : valsE s = ([], 6) := by
                  have h := HVE.out
                  rw [if_pos (.inr (.inr (.inr hSs)))] at h
                  exact h
                have HV := Lib.hid hv
                subst he1 hEz hp1
                clear hv
                go_wp2
                go_ret2
                exact ⟨.slice none 0 0, by rw [HV.out]; rfl, by rw [HV.out]; exact ⟨rfl, .inl ⟨rfl, rfl⟩⟩, hB03⟩
            · have hq1 : (E != 0) = true := by simpa using hEz
              have hv : valsE s = ([], 6) := by
                have h := HVE.out
                rw [if_pos (.inr (.inr (.inl hEz)))] at h
                exact h
              have HV := Lib.hid hv
              subst he1 hp1
              clear hv
              go_wp2
              go_ret2
              exact ⟨.slice none 0 0, by rw [HV.out]; rfl, by rw [HV.out]; exact ⟨rfl, .inl ⟨rfl, rfl⟩⟩, hB03⟩
          · have hp2 : ((p : Int) != (s.size : Int)) = true := by simp; omega
            have hp3 : (p != s.size) = true := by simpa using hp1
            have hv : valsE s = ([], 6) := by
              have h := HVE.out
              rw [if_pos (.inr (.inl hp1))] at h
              exact h
            have HV := Lib.hid hv
            subst he1
            clear hv
            go_wp2
            go_ret2
            exact ⟨.slice none 0 0, by rw [HV.out]; rfl, by rw [HV.out]; exact ⟨rfl, .inl ⟨rfl, rfl⟩⟩, hB03⟩
        · have hq1 : (e != 0) = true := by simpa using he1
          have hv : valsE s = ([], 6) := by
            have h := HVE.out
            rw [if_pos (.inl he1)] at h
            exact h
          have HV := Lib.hid hv
          clear hv
          go_wp2
          go_ret2
          exact ⟨.slice none 0 0, by rw [HV.out]; rfl, by rw [HV.out]; exact ⟨rfl, .inl ⟨rfl, rfl⟩⟩, hB03⟩
      · have he0 : ¬ e = 0 := by omega
        have he2 : (e == 0) = false := by simpa using he0
        have hmk : m < k0 := by omega
        clear hgo
        go_wp2_with fail
        refine HRW.out.mono ?_
        rintro r w3 ⟨rfl, hB3⟩
        have hA3 : w3.heap[w.heap.size]? = some (.cells #[.string s, .int .i64 p, .int .i64 e] 57 (0, 0)) := (hB3.block _ hRlt).trans HM.out.rd
        have hB03 := HM.out.below.trans (hB3.mono hsz)
        have hO3 := HM.out.own.below hB3
        obtain ⟨c0, c1, c2, cf⟩ := cells3 hA3
        clear b0 b1 b2 bf
        have hq1 : (e != 0) = true := by simpa using he0
        have hv : valsE s = ([], 6) := by
          have h := HVE.out
          rw [if_pos (.inl he0)] at h
          exact h
        have HV := Lib.hid hv
        clear hv
        go_wp2
        go_ret2
        exact ⟨.slice none 0 0, by rw [HV.out]; rfl, by rw [HV.out]; exact ⟨rfl, .inl ⟨rfl, rfl⟩⟩, hB03⟩
    · obtain ⟨j, hj⟩ : ∃ j, k0 - m = j + 1 := ⟨k0 - m - 1, by omega⟩
      obtain rfl : e = 0 := by omega
      have hmk : m < k0 := by omega
      rw [hj] at hrd
      have hrd' := rdLoop_go hrd rfl
      have hvl := rdVal_le s p 0 hM.le
      have hk1 := num_lt s p 0 1
      have hp1 := num_le s p 0 1 hM.le
      have hN1 : ∀ W, Calls Try.prog 26 #[.agg #[.string s, .int .i64 p, .int .i64 0], .int .i64 1] W fun r w' => r = .returned (.tuple #[.agg #[.string s, .int .i64 (numS s p 0 1).1, .int .i64 (numS s p 0 1).2.1], .int .u64 (numS s p 0 1).2.2]) ∧ Below W.heap.size W w' := fun W => RNum_one s p 0 W hs hM.le
      obtain ⟨q, hq⟩ : ∃ q, q = rdVal s p 0 := ⟨_, rfl⟩
      rw [← hq] at hrd' hvl
      unfold rdVal at hq
      obtain ⟨k1, hk⟩ : ∃ k, k = (numS s p 0 1).2.2 := ⟨_, rfl⟩
      obtain ⟨p1, hp⟩ : ∃ k, k = (numS s p 0 1).1 := ⟨_, rfl⟩
      obtain ⟨e1, he⟩ : ∃ k, k = (numS s p 0 1).2.1 := ⟨_, rfl⟩
      rw [← hk] at hk1
      rw [← hp] at hp1
      rw [← hk, ← hp, ← he] at hq hN1
      have hk255 : k1 ≤ 255 := by omega
      have HQ := Lib.hid hq
      have HR := Lib.hid hrd'
      have HRD := Lib.hid hrd
      have HL : Hid (out.length ≤ m) := hlen
      have HJ := Lib.hid hj
      have HN1 := Lib.hid hN1
      have hsz := hM.below.size
      have hRlt := lt_of_block hM.rd
      obtain ⟨ao, c, rfl⟩ := hM.own.slice
      clear hq hrd hrd' hk hp he hgo hEnd hk1 hj hN1
      go_wp2_with fail
      refine (HN1.out _).mono ?_
      rintro r w3 ⟨rfl, hB3⟩
      have hA3 : w3.heap[w.heap.size]? = some (.cells #[.string s, .int .i64 p, .int .i64 0] 57 (0, 0)) := (hB3.block _ hRlt).trans hM.rd
      obtain ⟨c0, c1, c2, cf⟩ := cells3 hA3
      have hO3 := hM.own.below hB3
      have hB03 := hM.below.trans (hB3.mono hsz)
      have hwl3 : w.heap.size < w3.heap.size := lt_of_block hA3
      have hA4 : (w3.alloc (.cells #[.string s, .int .i64 p1, .int .i64 e1] 57)).heap[w.heap.size]? = some (.cells #[.string s, .int .i64 p, .int .i64 0] 57 (0, 0)) := (Lib.alloc_old _ _ _ hwl3).trans hA3
      obtain ⟨d0, d1, d2, df⟩ := cells3 hA4
      clear b0 b1 b2 bf
      have hOlt : ∀ k, (Value.slice ao out.length c).ownBlock = some k → k < w3.heap.size ∧ k ≠ w.heap.size := fun k hk => ⟨(World.ownsRow.lt hO3 k hk).2, fun e => by
        obtain ⟨hl, ⟨h2, _⟩ | ⟨g, cap, cur, h2, hg', hh, r⟩⟩ := hO3
        · rw [h2] at hk; simp [Value.ownBlock] at hk
        · rw [h2] at hk
          simp only [Value.ownBlock, Option.some.injEq] at hk
          rw [hk, e, hA3] at hh
          simp at hh⟩
      have hS3 := set3 hA3 (.string s) (.int .i64 p1) (.int .i64 e1)
      have hOS := hO3.far3 (g := w.heap.size) (fun k hk => (hOlt k hk).2) (.string s) (.int .i64 p1) (.int .i64 e1)
      have hBS := below_set3 hB03 (Nat.le_refl _) (.string s) (.int .i64 p1) (.int .i64 e1)
      have HOLT := Lib.hid hOlt
      clear hOlt
      by_cases hk1 : k1 = 1
      · have hq1 := HQ.out
        rw [if_pos hk1] at hq1
        have hx8 := num_lt s p1 e1 8
        have hp8 := num_le s p1 e1 8 hp1
        have hN8 : ∀ W, Calls Try.prog 26 #[.agg #[.string s, .int .i64 p1, .int .i64 e1], .int .i64 8] W fun r w' => r = .returned (.tuple #[.agg #[.string s, .int .i64 (numS s p1 e1 8).1, .int .i64 (numS s p1 e1 8).2.1], .int .u64 (numS s p1 e1 8).2.2]) ∧ Below W.heap.size W w' := fun W => RNum_eight s p1 e1 W hs hp1
        obtain ⟨x8, hx⟩ : ∃ k, k = (numS s p1 e1 8).2.2 := ⟨_, rfl⟩
        obtain ⟨p8, hp⟩ : ∃ k, k = (numS s p1 e1 8).1 := ⟨_, rfl⟩
        obtain ⟨e8, he⟩ : ∃ k, k = (numS s p1 e1 8).2.1 := ⟨_, rfl⟩
        rw [← hx] at hx8
        rw [← hp] at hp8
        rw [← hx, ← hp, ← he] at hq1 hN8
        have HQ1 := Lib.hid hq1
        have HN8 := Lib.hid hN8
        clear hq1 hx hp he HQ hx8 hN8
        subst hk1
        have hW2 : (((((w3.setCell ⟨w.heap.size, 0, none⟩ (.string s)).setCell ⟨w.heap.size, 1, none⟩ (.int .i64 p1)).setCell ⟨w.heap.size, 2, none⟩ (.int .i64 e1)).alloc (.cells #[.string s, .int .i64 p1, .int .i64 e1] 57)).alloc (.cells #[.int .i64 1, .int .i64 0, .string ⟨#[]⟩] 50)).heap[w.heap.size]? = some (.cells #[.string s, .int .i64 p1, .int .i64 e1] 57 (0, 0)) := (Lib.alloc_old _ _ _ (by simp; omega)).trans ((Lib.alloc_old _ _ _ (by simp; omega)).trans hS3)
        have hV2 : (((((w3.setCell ⟨w.heap.size, 0, none⟩ (.string s)).setCell ⟨w.heap.size, 1, none⟩ (.int .i64 p1)).setCell ⟨w.heap.size, 2, none⟩ (.int .i64 e1)).alloc (.cells #[.string s, .int .i64 p1, .int .i64 e1] 57)).alloc (.cells #[.int .i64 1, .int .i64 0, .string ⟨#[]⟩] 50)).heap[w3.heap.size + 1]? = some (.cells #[.int .i64 1, .int .i64 0, .string ⟨#[]⟩] 50 (0, 0)) := by
          rw [show w3.heap.size + 1 = ((((w3.setCell ⟨w.heap.size, 0, none⟩ (.string s)).setCell ⟨w.heap.size, 1, none⟩ (.int .i64 p1)).setCell ⟨w.heap.size, 2, none⟩ (.int .i64 e1)).alloc (.cells #[.string s, .int .i64 p1, .int .i64 e1] 57)).heap.size from by simp]; exact heap_alloc_new _ _
        have hO2 : VOwn (((((w3.setCell ⟨w.heap.size, 0, none⟩ (.string s)).setCell ⟨w.heap.size, 1, none⟩ (.int .i64 p1)).setCell ⟨w.heap.size, 2, none⟩ (.int .i64 e1)).alloc (.cells #[.string s, .int .i64 p1, .int .i64 e1] 57)).alloc (.cells #[.int .i64 1, .int .i64 0, .string ⟨#[]⟩] 50)) 50 w.heap.size (.slice ao out.length c) out := (hOS.alloc _).alloc _
        have hB2 : Below w.heap.size w (((((w3.setCell ⟨w.heap.size, 0, none⟩ (.string s)).setCell ⟨w.heap.size, 1, none⟩ (.int .i64 p1)).setCell ⟨w.heap.size, 2, none⟩ (.int .i64 e1)).alloc (.cells #[.string s, .int .i64 p1, .int .i64 e1] 57)).alloc (.cells #[.int .i64 1, .int .i64 0, .string ⟨#[]⟩] 50)) := (hBS.alloc hBS.size _).alloc (by have := hBS.size; simp at this ⊢; omega) _
        have hW2l := lt_of_block hW2
        have hV2l := lt_of_block hV2
        go_wp2_with fail
        refine (HN8.out _).mono ?_
        rintro r w4 ⟨rfl, hB4⟩
        have hW4 : w4.heap[w.heap.size]? = some (.cells #[.string s, .int .i64 p1, .int .i64 e1] 57 (0, 0)) := (hB4.block _ hW2l).trans hW2
        have hV4 : w4.heap[w3.heap.size + 1]? = some (.cells #[.int .i64 1, .int .i64 0, .string ⟨#[]⟩] 50 (0, 0)) := (hB4.block _ hV2l).trans hV2
        have hO4 : VOwn w4 50 w.heap.size (.slice ao out.length c) out := hO2.below hB4
        have hB04 : Below w.heap.size w w4 := hB2.trans (hB4.mono hB2.size)
        obtain ⟨x0, x1, x2, xf⟩ := cells3 hW4
        obtain ⟨y0, y1, y2, yf⟩ := cells3 hV4
        have hwl4 := lt_of_block hW4
        have hvl4 := lt_of_block hV4
        have hW4a : (w4.alloc (.cells #[.string s, .int .i64 p8, .int .i64 e8] 57)).heap[w.heap.size]? = some (.cells #[.string s, .int .i64 p1, .int .i64 e1] 57 (0, 0)) := (Lib.alloc_old _ _ _ hwl4).trans hW4
        have hV4a : (w4.alloc (.cells #[.string s, .int .i64 p8, .int .i64 e8] 57)).heap[w3.heap.size + 1]? = some (.cells #[.int .i64 1, .int .i64 0, .string ⟨#[]⟩] 50 (0, 0)) := (Lib.alloc_old _ _ _ hvl4).trans hV4
        obtain ⟨s0, s1, s2, sf⟩ := cells3 hW4a
        obtain ⟨t0, t1, t2, tf⟩ := cells3 hV4a
        have hne : w3.heap.size + 1 ≠ w.heap.size := by omega
        have hW5 : ((((w4.setCell ⟨w.heap.size, 0, none⟩ (.string s)).setCell ⟨w.heap.size, 1, none⟩ (.int .i64 p8)).setCell ⟨w.heap.size, 2, none⟩ (.int .i64 e8)).setCell ⟨w3.heap.size + 1, 1, none⟩ (.int .i64 (wrap64 (x8 : Int)))).heap[w.heap.size]? = some (.cells #[.string s, .int .i64 p8, .int .i64 e8] 57 (0, 0)) := (heap_far _ ⟨w3.heap.size + 1, 1, none⟩ _ (Ne.symm hne) _).trans (set3 hW4 _ _ _)
        have hO5 : VOwn ((((w4.setCell ⟨w.heap.size, 0, none⟩ (.string s)).setCell ⟨w.heap.size, 1, none⟩ (.int .i64 p8)).setCell ⟨w.heap.size, 2, none⟩ (.int .i64 e8)).setCell ⟨w3.heap.size + 1, 1, none⟩ (.int .i64 (wrap64 (x8 : Int)))) 50 w.heap.size (.slice ao out.length c) out := (hO4.far3 (fun k hk => (HOLT.out k hk).2) _ _ _).far (fun k hk => by have := (HOLT.out k hk).1; omega) _ _
        have hB5 : Below w.heap.size w ((((w4.setCell ⟨w.heap.size, 0, none⟩ (.string s)).setCell ⟨w.heap.size, 1, none⟩ (.int .i64 p8)).setCell ⟨w.heap.size, 2, none⟩ (.int .i64 e8)).setCell ⟨w3.heap.size + 1, 1, none⟩ (.int .i64 (wrap64 (x8 : Int)))) := (below_set3 hB04 (Nat.le_refl _) _ _ _).setCell (show w.heap.size ≤ (⟨w3.heap.size + 1, 1, none⟩ : Addr).block from by show w.heap.size ≤ w3.heap.size + 1; omega) _
        have hO6 : VOwn (((((w4.setCell ⟨w.heap.size, 0, none⟩ (.string s)).setCell ⟨w.heap.size, 1, none⟩ (.int .i64 p8)).setCell ⟨w.heap.size, 2, none⟩ (.int .i64 e8)).setCell ⟨w3.heap.size + 1, 1, none⟩ (.int .i64 (wrap64 (x8 : Int)))).alloc (.cells #[.string s, .int .i64 p8, .int .i64 e8] 57)) 50 w.heap.size (.slice ao out.length c) out := hO5.alloc _
        have hW6 : (((((w4.setCell ⟨w.heap.size, 0, none⟩ (.string s)).setCell ⟨w.heap.size, 1, none⟩ (.int .i64 p8)).setCell ⟨w.heap.size, 2, none⟩ (.int .i64 e8)).setCell ⟨w3.heap.size + 1, 1, none⟩ (.int .i64 (wrap64 (x8 : Int)))).alloc (.cells #[.string s, .int .i64 p8, .int .i64 e8] 57)).heap[w.heap.size]? = some (.cells #[.string s, .int .i64 p8, .int .i64 e8] 57 (0, 0)) := (Lib.alloc_old _ _ _ (lt_of_block hW5)).trans hW5
        have hB6 : Below w.heap.size w (((((w4.setCell ⟨w.heap.size, 0, none⟩ (.string s)).setCell ⟨w.heap.size, 1, none⟩ (.int .i64 p8)).setCell ⟨w.heap.size, 2, none⟩ (.int .i64 e8)).setCell ⟨w3.heap.size + 1, 1, none⟩ (.int .i64 (wrap64 (x8 : Int)))).alloc (.cells #[.string s, .int .i64 p8, .int .i64 e8] 57)) := hB5.alloc hB5.size _
        have HNB : Hid (((((((w4.setCell ⟨w.heap.size, 0, none⟩ (.string s)).setCell ⟨w.heap.size, 1, none⟩ (.int .i64 p8)).setCell ⟨w.heap.size, 2, none⟩ (.int .i64 e8)).setCell ⟨w3.heap.size + 1, 1, none⟩ (.int .i64 (wrap64 (x8 : Int)))).alloc (.cells #[.string s, .int .i64 p8, .int .i64 e8] 57)).alloc (.cells #[.int .i64 1, .int .i64 (wrap64 (x8 : Int)), .string ⟨#[]⟩] 50)).heap[w4.heap.size + 1]? = some (.cells #[.int .i64 1, .int .i64 (wrap64 (x8 : Int)), .string ⟨#[]⟩] 50 (0, 0))) := Lib.hid (by rw [show w4.heap.size + 1 = (((((w4.setCell ⟨w.heap.size, 0, none⟩ (.string s)).setCell ⟨w.heap.size, 1, none⟩ (.int .i64 p8)).setCell ⟨w.heap.size, 2, none⟩ (.int .i64 e8)).setCell ⟨w3.heap.size + 1, 1, none⟩ (.int .i64 (wrap64 (x8 : Int)))).alloc (.cells #[.string s, .int .i64 p8, .int .i64 e8] 57)).heap.size from by simp]; exact heap_alloc_new _ _)
        have HBS : Hid (w.heap.size ≤ ((((((w4.setCell ⟨w.heap.size, 0, none⟩ (.string s)).setCell ⟨w.heap.size, 1, none⟩ (.int .i64 p8)).setCell ⟨w.heap.size, 2, none⟩ (.int .i64 e8)).setCell ⟨w3.heap.size + 1, 1, none⟩ (.int .i64 (wrap64 (x8 : Int)))).alloc (.cells #[.string s, .int .i64 p8, .int .i64 e8] 57)).alloc (.cells #[.int .i64 1, .int .i64 (wrap64 (x8 : Int)), .string ⟨#[]⟩] 50)).heap.size) := Lib.hid (by simp; omega)
        have HOW := Lib.hid hO6
        have HRW := Lib.hid hW6
        have HBW := Lib.hid hB6
        clear hW5 hO5 hB5 hO6 hW6 hB6 hW2 hV2 hO2 hB2 hS3 hOS hBS hA4 d0 d1 d2 df c0 c1 c2 cf
        go_wp2_with (at_builtin; refine wpList_append_own _ rfl _ _ 28 rfl w.heap.size 50 i0 _ 3 32 Try.underlying28 hi0 hz0 hz1 hz2 rfl (by decide) (.slice ao out.length c) out.length (out.flatMap vcells) rfl (HOW.out.alloc _) ⟨w4.heap.size + 1, 0, none⟩ 1 1 [.int .i64 1, .int .i64 (wrap64 (x8 : Int)), .string ⟨#[]⟩] rfl rfl (World.news_of_block HNB.out) (by intro u hu; simp at hu; rcases hu with rfl | rfl | rfl <;> rfl) (by unfold maxLen; omega) (by omega) HBS.out ?_; intro v' w6 hown' hgrow' hnil')
        have hM' := midR_next (v := ⟨1, wrap64 (x8 : Int), ⟨#[]⟩⟩) HRW.out hp8 HOW.out HBW.out hgrow' hown'
        go_roundw
        case rel => exact ⟨m + 1, p8, e8, _, by go_num, by omega, hM', by simp; omega, by have := HR.out; rw [HQ1.out] at this; have hj := HJ.out; rw [show k0 - (m + 1) = j from by omega]; exact this⟩
        case measure => simp [intOf] <;> omega
      · by_cases hk2 : k1 = 2
        · have hq1 := HQ.out
          rw [if_neg hk1, if_pos hk2] at hq1
          have hx2 := num_lt s p1 e1 1
          have hp2 := num_le s p1 e1 1 hp1
          have hN2 : ∀ W, Calls Try.prog 26 #[.agg #[.string s, .int .i64 p1, .int .i64 e1], .int .i64 1] W fun r w' => r = .returned (.tuple #[.agg #[.string s, .int .i64 (numS s p1 e1 1).1, .int .i64 (numS s p1 e1 1).2.1], .int .u64 (numS s p1 e1 1).2.2]) ∧ Below W.heap.size W w' := fun W => RNum_one s p1 e1 W hs hp1
          obtain ⟨x2, hx⟩ : ∃ k, k = (numS s p1 e1 1).2.2 := ⟨_, rfl⟩
          obtain ⟨p2, hp⟩ : ∃ k, k = (numS s p1 e1 1).1 := ⟨_, rfl⟩
          obtain ⟨e2, he⟩ : ∃ k, k = (numS s p1 e1 1).2.1 := ⟨_, rfl⟩
          rw [← hx] at hx2
          rw [← hp] at hp2
          rw [← hx, ← hp, ← he] at hq1 hN2
          have hx255 : x2 ≤ 255 := by omega
          have hp3 := bytes_le s p2 e2 x2 hp2
          have hT2 : ∀ W, Calls Try.prog 27 #[.agg #[.string s, .int .i64 p2, .int .i64 e2], .int .i64 x2] W fun r w' => r = .returned (.tuple #[.agg #[.string s, .int .i64 (bytesS s p2 e2 x2).1, .int .i64 (bytesS s p2 e2 x2).2.1], .string (bs (bytesS s p2 e2 x2).2.2)]) ∧ Below W.heap.size W w' := fun W => Take_any s p2 e2 x2 W hs hp2 (by omega)
          obtain ⟨p3, hpp⟩ : ∃ k, k = (bytesS s p2 e2 x2).1 := ⟨_, rfl⟩
          obtain ⟨e3, hee⟩ : ∃ k, k = (bytesS s p2 e2 x2).2.1 := ⟨_, rfl⟩
          obtain ⟨S5, hss⟩ : ∃ k, k = bs (bytesS s p2 e2 x2).2.2 := ⟨_, rfl⟩
          rw [← hpp] at hp3
          rw [← hpp, ← hee, ← hss] at hq1 hT2
          have HQ1 := Lib.hid hq1
          have HN2 := Lib.hid hN2
          have HT2 := Lib.hid hT2
          clear hq1 hx hp he HQ hx2 hN2 hT2 hpp hee hss hk1
          subst hk2
          have hW2 : (((((w3.setCell ⟨w.heap.size, 0, none⟩ (.string s)).setCell ⟨w.heap.size, 1, none⟩ (.int .i64 p1)).setCell ⟨w.heap.size, 2, none⟩ (.int .i64 e1)).alloc (.cells #[.string s, .int .i64 p1, .int .i64 e1] 57)).alloc (.cells #[.int .i64 2, .int .i64 0, .string ⟨#[]⟩] 50)).heap[w.heap.size]? = some (.cells #[.string s, .int .i64 p1, .int .i64 e1] 57 (0, 0)) := (Lib.alloc_old _ _ _ (by simp; omega)).trans ((Lib.alloc_old _ _ _ (by simp; omega)).trans hS3)
          have hV2 : (((((w3.setCell ⟨w.heap.size, 0, none⟩ (.string s)).setCell ⟨w.heap.size, 1, none⟩ (.int .i64 p1)).setCell ⟨w.heap.size, 2, none⟩ (.int .i64 e1)).alloc (.cells #[.string s, .int .i64 p1, .int .i64 e1] 57)).alloc (.cells #[.int .i64 2, .int .i64 0, .string ⟨#[]⟩] 50)).heap[w3.heap.size + 1]? = some (.cells #[.int .i64 2, .int .i64 0, .string ⟨#[]⟩] 50 (0, 0)) := by
            rw [show w3.heap.size + 1 = ((((w3.setCell ⟨w.heap.size, 0, none⟩ (.string s)).setCell ⟨w.heap.size, 1, none⟩ (.int .i64 p1)).setCell ⟨w.heap.size, 2, none⟩ (.int .i64 e1)).alloc (.cells #[.string s, .int .i64 p1, .int .i64 e1] 57)).heap.size from by simp]; exact heap_alloc_new _ _
          have hO2 : VOwn (((((w3.setCell ⟨w.heap.size, 0, none⟩ (.string s)).setCell ⟨w.heap.size, 1, none⟩ (.int .i64 p1)).setCell ⟨w.heap.size, 2, none⟩ (.int .i64 e1)).alloc (.cells #[.string s, .int .i64 p1, .int .i64 e1] 57)).alloc (.cells #[.int .i64 2, .int .i64 0, .string ⟨#[]⟩] 50)) 50 w.heap.size (.slice ao out.length c) out := (hOS.alloc _).alloc _
          have hB2 : Below w.heap.size w (((((w3.setCell ⟨w.heap.size, 0, none⟩ (.string s)).setCell ⟨w.heap.size, 1, none⟩ (.int .i64 p1)).setCell ⟨w.heap.size, 2, none⟩ (.int .i64 e1)).alloc (.cells #[.string s, .int .i64 p1, .int .i64 e1] 57)).alloc (.cells #[.int .i64 2, .int .i64 0, .string ⟨#[]⟩] 50)) := (hBS.alloc hBS.size _).alloc (by have := hBS.size; simp at this ⊢; omega) _
          have hW2l := lt_of_block hW2
          have hV2l := lt_of_block hV2
          go_wp2_with fail
          refine (HN2.out _).mono ?_
          rintro r w4 ⟨rfl, hB4⟩
          have hW4 : w4.heap[w.heap.size]? = some (.cells #[.string s, .int .i64 p1, .int .i64 e1] 57 (0, 0)) := (hB4.block _ hW2l).trans hW2
          have hV4 : w4.heap[w3.heap.size + 1]? = some (.cells #[.int .i64 2, .int .i64 0, .string ⟨#[]⟩] 50 (0, 0)) := (hB4.block _ hV2l).trans hV2
          have hO4 : VOwn w4 50 w.heap.size (.slice ao out.length c) out := hO2.below hB4
          have hB04 : Below w.heap.size w w4 := hB2.trans (hB4.mono hB2.size)
          have hwl4 := lt_of_block hW4
          have hvl4 := lt_of_block hV4
          have hW4a : (w4.alloc (.cells #[.string s, .int .i64 p2, .int .i64 e2] 57)).heap[w.heap.size]? = some (.cells #[.string s, .int .i64 p1, .int .i64 e1] 57 (0, 0)) := (Lib.alloc_old _ _ _ hwl4).trans hW4
          obtain ⟨x0, x1, xx2, xf⟩ := cells3 hW4
          obtain ⟨s0, s1, s2, sf⟩ := cells3 hW4a
          have hne : w3.heap.size + 1 ≠ w.heap.size := by omega
          have hW5 : ((((w4.setCell ⟨w.heap.size, 0, none⟩ (.string s)).setCell ⟨w.heap.size, 1, none⟩ (.int .i64 p2)).setCell ⟨w.heap.size, 2, none⟩ (.int .i64 e2)).alloc (.cells #[.string s, .int .i64 p2, .int .i64 e2] 57)).heap[w.heap.size]? = some (.cells #[.string s, .int .i64 p2, .int .i64 e2] 57 (0, 0)) := (Lib.alloc_old _ _ _ (by simpa using hwl4)).trans (set3 hW4 _ _ _)
          have hV5 : ((((w4.setCell ⟨w.heap.size, 0, none⟩ (.string s)).setCell ⟨w.heap.size, 1, none⟩ (.int .i64 p2)).setCell ⟨w.heap.size, 2, none⟩ (.int .i64 e2)).alloc (.cells #[.string s, .int .i64 p2, .int .i64 e2] 57)).heap[w3.heap.size + 1]? = some (.cells #[.int .i64 2, .int .i64 0, .string ⟨#[]⟩] 50 (0, 0)) := (Lib.alloc_old _ _ _ (by simpa using hvl4)).trans ((far3 w4 hne _ _ _).trans hV4)
          have hX5 : ((((w4.setCell ⟨w.heap.size, 0, none⟩ (.string s)).setCell ⟨w.heap.size, 1, none⟩ (.int .i64 p2)).setCell ⟨w.heap.size, 2, none⟩ (.int .i64 e2)).alloc (.cells #[.string s, .int .i64 p2, .int .i64 e2] 57)).heap[w4.heap.size]? = some (.cells #[.string s, .int .i64 p2, .int .i64 e2] 57 (0, 0)) := by
            rw [show w4.heap.size = (((w4.setCell ⟨w.heap.size, 0, none⟩ (.string s)).setCell ⟨w.heap.size, 1, none⟩ (.int .i64 p2)).setCell ⟨w.heap.size, 2, none⟩ (.int .i64 e2)).heap.size from by simp]; exact heap_alloc_new _ _
          have hO5 : VOwn ((((w4.setCell ⟨w.heap.size, 0, none⟩ (.string s)).setCell ⟨w.heap.size, 1, none⟩ (.int .i64 p2)).setCell ⟨w.heap.size, 2, none⟩ (.int .i64 e2)).alloc (.cells #[.string s, .int .i64 p2, .int .i64 e2] 57)) 50 w.heap.size (.slice ao out.length c) out := VOwn.below (hO4.far3 (fun k hk => (HOLT.out k hk).2) _ _ _) ((Below.refl _ _).alloc (Nat.le_refl _) _)
          have hB5 : Below w.heap.size w ((((w4.setCell ⟨w.heap.size, 0, none⟩ (.string s)).setCell ⟨w.heap.size, 1, none⟩ (.int .i64 p2)).setCell ⟨w.heap.size, 2, none⟩ (.int .i64 e2)).alloc (.cells #[.string s, .int .i64 p2, .int .i64 e2] 57)) := (below_set3 hB04 (Nat.le_refl _) _ _ _).alloc (by have := hB04.size; simpa using this) _
          have hW5l := lt_of_block hW5
          have hV5l := lt_of_block hV5
          have hX5l := lt_of_block hX5
          clear hW2 hV2 hO2 hB2 hS3 hOS hBS hA4 d0 d1 d2 df c0 c1 c2 cf
          go_wp2_with fail
          refine (HT2.out _).mono ?_
          rintro r w5 ⟨rfl, hB6⟩
          have hW6 : w5.heap[w.heap.size]? = some (.cells #[.string s, .int .i64 p2, .int .i64 e2] 57 (0, 0)) := (hB6.block _ hW5l).trans hW5
          have hV6 : w5.heap[w3.heap.size + 1]? = some (.cells #[.int .i64 2, .int .i64 0, .string ⟨#[]⟩] 50 (0, 0)) := (hB6.block _ hV5l).trans hV5
          have hX6 : w5.heap[w4.heap.size]? = some (.cells #[.string s, .int .i64 p2, .int .i64 e2] 57 (0, 0)) := (hB6.block _ hX5l).trans hX5
          have hO6 : VOwn w5 50 w.heap.size (.slice ao out.length c) out := hO5.below hB6
          have hB06 : Below w.heap.size w w5 := hB5.trans (hB6.mono hB5.size)
          clear x0 x1 xx2 xf s0 s1 s2 sf
          obtain ⟨x0, x1, xx2, xf⟩ := cells3 hW6
          obtain ⟨y0, y1, y2, yf⟩ := cells3 hV6
          obtain ⟨z0, z1, z2, zf⟩ := cells3 hX6
          have n1 : w4.heap.size ≠ w.heap.size := by omega
          have n2 : w4.heap.size ≠ w3.heap.size + 1 := by omega
          have hW7 : (((((((w5.setCell ⟨w4.heap.size, 0, none⟩ (.string s)).setCell ⟨w4.heap.size, 1, none⟩ (.int .i64 p3)).setCell ⟨w4.heap.size, 2, none⟩ (.int .i64 e3)).setCell ⟨w3.heap.size + 1, 2, none⟩ (.string S5)).setCell ⟨w.heap.size, 0, none⟩ (.string s)).setCell ⟨w.heap.size, 1, none⟩ (.int .i64 p3)).setCell ⟨w.heap.size, 2, none⟩ (.int .i64 e3)).heap[w.heap.size]? = some (.cells #[.string s, .int .i64 p3, .int .i64 e3] 57 (0, 0)) :=
            set3 ((heap_far _ ⟨w3.heap.size + 1, 2, none⟩ _ (Ne.symm hne) _).trans ((far3 w5 (Ne.symm n1) _ _ _).trans hW6)) _ _ _
          have hO7 : VOwn (((((((w5.setCell ⟨w4.heap.size, 0, none⟩ (.string s)).setCell ⟨w4.heap.size, 1, none⟩ (.int .i64 p3)).setCell ⟨w4.heap.size, 2, none⟩ (.int .i64 e3)).setCell ⟨w3.heap.size + 1, 2, none⟩ (.string S5)).setCell ⟨w.heap.size, 0, none⟩ (.string s)).setCell ⟨w.heap.size, 1, none⟩ (.int .i64 p3)).setCell ⟨w.heap.size, 2, none⟩ (.int .i64 e3)) 50 w.heap.size (.slice ao out.length c) out :=
            ((hO6.far3 (g := w4.heap.size) (fun k hk => by have := (HOLT.out k hk).1; omega) _ _ _).far (g := w3.heap.size + 1) (fun k hk => by have := (HOLT.out k hk).1; omega) _ _).far3 (fun k hk => (HOLT.out k hk).2) _ _ _
          have hB7 : Below w.heap.size w (((((((w5.setCell ⟨w4.heap.size, 0, none⟩ (.string s)).setCell ⟨w4.heap.size, 1, none⟩ (.int .i64 p3)).setCell ⟨w4.heap.size, 2, none⟩ (.int .i64 e3)).setCell ⟨w3.heap.size + 1, 2, none⟩ (.string S5)).setCell ⟨w.heap.size, 0, none⟩ (.string s)).setCell ⟨w.heap.size, 1, none⟩ (.int .i64 p3)).setCell ⟨w.heap.size, 2, none⟩ (.int .i64 e3)) :=
            below_set3 ((below_set3 hB06 (show w.heap.size ≤ w4.heap.size by omega) _ _ _).setCell (show w.heap.size ≤ (⟨w3.heap.size + 1, 2, none⟩ : Addr).block from by show w.heap.size ≤ w3.heap.size + 1; omega) _) (Nat.le_refl _) _ _ _
          have hwl5 := lt_of_block hW6
          have HNB : Hid (((((((((w5.setCell ⟨w4.heap.size, 0, none⟩ (.string s)).setCell ⟨w4.heap.size, 1, none⟩ (.int .i64 p3)).setCell ⟨w4.heap.size, 2, none⟩ (.int .i64 e3)).setCell ⟨w3.heap.size + 1, 2, none⟩ (.string S5)).setCell ⟨w.heap.size, 0, none⟩ (.string s)).setCell ⟨w.heap.size, 1, none⟩ (.int .i64 p3)).setCell ⟨w.heap.size, 2, none⟩ (.int .i64 e3)).alloc (.cells #[.int .i64 2, .int .i64 0, .string S5] 50)).heap[w5.heap.size]? = some (.cells #[.int .i64 2, .int .i64 0, .string S5] 50 (0, 0))) := Lib.hid (by rw [show w5.heap.size = (((((((w5.setCell ⟨w4.heap.size, 0, none⟩ (.string s)).setCell ⟨w4.heap.size, 1, none⟩ (.int .i64 p3)).setCell ⟨w4.heap.size, 2, none⟩ (.int .i64 e3)).setCell ⟨w3.heap.size + 1, 2, none⟩ (.string S5)).setCell ⟨w.heap.size, 0, none⟩ (.string s)).setCell ⟨w.heap.size, 1, none⟩ (.int .i64 p3)).setCell ⟨w.heap.size, 2, none⟩ (.int .i64 e3)).heap.size from by simp]; exact heap_alloc_new _ _)
          have HBS : Hid (w.heap.size ≤ ((((((((w5.setCell ⟨w4.heap.size, 0, none⟩ (.string s)).setCell ⟨w4.heap.size, 1, none⟩ (.int .i64 p3)).setCell ⟨w4.heap.size, 2, none⟩ (.int .i64 e3)).setCell ⟨w3.heap.size + 1, 2, none⟩ (.string S5)).setCell ⟨w.heap.size, 0, none⟩ (.string s)).setCell ⟨w.heap.size, 1, none⟩ (.int .i64 p3)).setCell ⟨w.heap.size, 2, none⟩ (.int .i64 e3)).alloc (.cells #[.int .i64 2, .int .i64 0, .string S5] 50)).heap.size) := Lib.hid (by simp; omega)
          have HOW := Lib.hid hO7
          have HRW := Lib.hid hW7
          have HBW := Lib.hid hB7
          clear hW7 hO7 hB7 hW5 hV5 hX5 hO5 hB5
          go_wp2_with (at_builtin; refine wpList_append_own _ rfl _ _ 28 rfl w.heap.size 50 i0 _ 3 32 Try.underlying28 hi0 hz0 hz1 hz2 rfl (by decide) (.slice ao out.length c) out.length (out.flatMap vcells) rfl (HOW.out.alloc _) ⟨w5.heap.size, 0, none⟩ 1 1 [.int .i64 2, .int .i64 0, .string S5] rfl rfl (World.news_of_block HNB.out) (by intro u hu; simp at hu; rcases hu with rfl | rfl | rfl <;> rfl) (by unfold maxLen; omega) (by omega) HBS.out ?_; intro v' w6 hown' hgrow' hnil')
          have hM' := midR_next (v := ⟨2, 0, S5⟩) HRW.out hp3 HOW.out HBW.out hgrow' hown'
          go_roundw
          case rel => exact ⟨m + 1, p3, e3, _, by go_num, by omega, hM', by simp; omega, by have := HR.out; rw [HQ1.out] at this; have hj := HJ.out; rw [show k0 - (m + 1) = j from by omega]; exact this⟩
          case measure => simp [intOf] <;> omega
        · have hk1i : ¬ ((k1 : Int) = 1) := by omega
          have hk2i : ¬ ((k1 : Int) = 2) := by omega
          have hq1 := HQ.out
          rw [if_neg hk1, if_neg hk2] at hq1
          have HQ1 := Lib.hid hq1
          clear hq1 HQ
          have hW2 : (((((w3.setCell ⟨w.heap.size, 0, none⟩ (.string s)).setCell ⟨w.heap.size, 1, none⟩ (.int .i64 p1)).setCell ⟨w.heap.size, 2, none⟩ (.int .i64 e1)).alloc (.cells #[.string s, .int .i64 p1, .int .i64 e1] 57)).alloc (.cells #[.int .i64 k1, .int .i64 0, .string ⟨#[]⟩] 50)).heap[w.heap.size]? = some (.cells #[.string s, .int .i64 p1, .int .i64 e1] 57 (0, 0)) := (Lib.alloc_old _ _ _ (by simp; omega)).trans ((Lib.alloc_old _ _ _ (by simp; omega)).trans hS3)
          have hV2 : (((((w3.setCell ⟨w.heap.size, 0, none⟩ (.string s)).setCell ⟨w.heap.size, 1, none⟩ (.int .i64 p1)).setCell ⟨w.heap.size, 2, none⟩ (.int .i64 e1)).alloc (.cells #[.string s, .int .i64 p1, .int .i64 e1] 57)).alloc (.cells #[.int .i64 k1, .int .i64 0, .string ⟨#[]⟩] 50)).heap[w3.heap.size + 1]? = some (.cells #[.int .i64 k1, .int .i64 0, .string ⟨#[]⟩] 50 (0, 0)) := by
            rw [show w3.heap.size + 1 = ((((w3.setCell ⟨w.heap.size, 0, none⟩ (.string s)).setCell ⟨w.heap.size, 1, none⟩ (.int .i64 p1)).setCell ⟨w.heap.size, 2, none⟩ (.int .i64 e1)).alloc (.cells #[.string s, .int .i64 p1, .int .i64 e1] 57)).heap.size from by simp]; exact heap_alloc_new _ _
          have hO2 : VOwn (((((w3.setCell ⟨w.heap.size, 0, none⟩ (.string s)).setCell ⟨w.heap.size, 1, none⟩ (.int .i64 p1)).setCell ⟨w.heap.size, 2, none⟩ (.int .i64 e1)).alloc (.cells #[.string s, .int .i64 p1, .int .i64 e1] 57)).alloc (.cells #[.int .i64 k1, .int .i64 0, .string ⟨#[]⟩] 50)) 50 w.heap.size (.slice ao out.length c) out := (hOS.alloc _).alloc _
          have hB2 : Below w.heap.size w (((((w3.setCell ⟨w.heap.size, 0, none⟩ (.string s)).setCell ⟨w.heap.size, 1, none⟩ (.int .i64 p1)).setCell ⟨w.heap.size, 2, none⟩ (.int .i64 e1)).alloc (.cells #[.string s, .int .i64 p1, .int .i64 e1] 57)).alloc (.cells #[.int .i64 k1, .int .i64 0, .string ⟨#[]⟩] 50)) := (hBS.alloc hBS.size _).alloc (by have := hBS.size; simp at this ⊢; omega) _
          have HNB : Hid (((((((w3.setCell ⟨w.heap.size, 0, none⟩ (.string s)).setCell ⟨w.heap.size, 1, none⟩ (.int .i64 p1)).setCell ⟨w.heap.size, 2, none⟩ (.int .i64 e1)).alloc (.cells #[.string s, .int .i64 p1, .int .i64 e1] 57)).alloc (.cells #[.int .i64 k1, .int .i64 0, .string ⟨#[]⟩] 50)).alloc (.cells #[.int .i64 k1, .int .i64 0, .string ⟨#[]⟩] 50)).heap[w3.heap.size + 1 + 1]? = some (.cells #[.int .i64 k1, .int .i64 0, .string ⟨#[]⟩] 50 (0, 0))) := Lib.hid (by rw [show w3.heap.size + 1 + 1 = (((((w3.setCell ⟨w.heap.size, 0, none⟩ (.string s)).setCell ⟨w.heap.size, 1, none⟩ (.int .i64 p1)).setCell ⟨w.heap.size, 2, none⟩ (.int .i64 e1)).alloc (.cells #[.string s, .int .i64 p1, .int .i64 e1] 57)).alloc (.cells #[.int .i64 k1, .int .i64 0, .string ⟨#[]⟩] 50)).heap.size from by simp]; exact heap_alloc_new _ _)
          have HBS : Hid (w.heap.size ≤ ((((((w3.setCell ⟨w.heap.size, 0, none⟩ (.string s)).setCell ⟨w.heap.size, 1, none⟩ (.int .i64 p1)).setCell ⟨w.heap.size, 2, none⟩ (.int .i64 e1)).alloc (.cells #[.string s, .int .i64 p1, .int .i64 e1] 57)).alloc (.cells #[.int .i64 k1, .int .i64 0, .string ⟨#[]⟩] 50)).alloc (.cells #[.int .i64 k1, .int .i64 0, .string ⟨#[]⟩] 50)).heap.size) := Lib.hid (by simp; omega)
          have HOW := Lib.hid hO2
          have HRW := Lib.hid hW2
          have HBW := Lib.hid hB2
          clear hW2 hV2 hO2 hB2 hS3 hOS hBS
          go_wp2_with (at_builtin; refine wpList_append_own _ rfl _ _ 28 rfl w.heap.size 50 i0 _ 3 32 Try.underlying28 hi0 hz0 hz1 hz2 rfl (by decide) (.slice ao out.length c) out.length (out.flatMap vcells) rfl (HOW.out.alloc _) ⟨w3.heap.size + 1 + 1, 0, none⟩ 1 1 [.int .i64 k1, .int .i64 0, .string ⟨#[]⟩] rfl rfl (World.news_of_block HNB.out) (by intro u hu; simp at hu; rcases hu with rfl | rfl | rfl <;> rfl) (by unfold maxLen; omega) (by omega) HBS.out ?_; intro v' w6 hown' hgrow' hnil')
          have hM' := midR_next (v := ⟨k1, 0, ⟨#[]⟩⟩) HRW.out hp1 HOW.out HBW.out hgrow' hown'
          go_roundw
          case rel => exact ⟨m + 1, p1, e1, _, by go_num, by omega, hM', by simp; omega, by have := HR.out; rw [HQ1.out] at this; have hj := HJ.out; rw [show k0 - (m + 1) = j from by omega]; exact this⟩
          case measure => simp [intOf] <;> omega
end Go.Proofs.Ytdpipfifoinncaa
