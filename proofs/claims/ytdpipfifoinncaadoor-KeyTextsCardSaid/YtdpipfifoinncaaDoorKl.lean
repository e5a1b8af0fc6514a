import Derived.Test.YtdpipfifoinncaaDoorKj
import Derived.Deep.AppendLies
namespace Go.Proofs.YtdpipfifoinncaaDoor
open Go.RowKit
set_option linter.unusedVariables false

theorem str_ne {a b : ByteArray} (h : ¬ a = b) : (a.toList == b.toList) = false := by
  rw [beq_eq_false_iff_ne]
  intro e
  exact h (by
    rw [ByteArray.toList_eq, ByteArray.toList_eq] at e
    exact ByteArray.ext (Array.ext' e))
theorem rdLoop_go {s : ByteArray} {j p : Nat} {e : Int} {out : List V} {F : Nat × Int × List V} (h : rdLoop s (j + 1) p e out = F) (he : e = 0) : rdLoop s j (rdVal s p e).1 (rdVal s p e).2.1 (out ++ [(rdVal s p e).2.2]) = F := by
  rw [← h]; conv => rhs; unfold rdLoop
  rw [if_pos he]
theorem rdLoop_no {s : ByteArray} {j p : Nat} {e : Int} {out : List V} {F : Nat × Int × List V} (h : rdLoop s (j + 1) p e out = F) (he : ¬ e = 0) : (p, e, out) = F := by
  rw [← h]; unfold rdLoop
  rw [if_neg he]

/-- What stands at the end of the loop. -/
structure Mid (s : ByteArray) (w wr : World) (v : Value) (p : Nat) (e : Int) (out : List V) : Prop where
  rd : RdAt wr w.heap.size s p e
  le : p ≤ s.size
  own : VOwn wr 23 w.heap.size v out
  below : Below w.heap.size w wr

theorem mid_next {s : ByteArray} {w W w5 : World} {p : Nat} {e : Int} {out : List V} {ao : Option Addr} {c : Nat} {v' : Value} {v : V} (hR : RdAt W w.heap.size s p e) (hp : p ≤ s.size)
    (hO : VOwn W 23 w.heap.size (.slice ao out.length c) out) (hB : Below w.heap.size w W) {o : Obj} (hg : (W.alloc o).grownBy w5 (Value.slice ao out.length c).ownBlock)
    (ho : w5.ownsRow w.heap.size 23 3 v' (out.length + 1) (out.flatMap vcells ++ vcells v)) : Mid s w w5 v' p e (out ++ [v]) := by
  have hlt := fun k hk => World.ownsRow.lt hO k hk
  refine ⟨?_, hp, ?_, (hB.alloc hB.size o).grown hg (by have := hB.size; simp; omega) (fun k hk => (hlt k (by first | exact hk | exact hk.symm)).1)⟩
  · have h1 := hR.alloc o
    refine (hg.block _ h1.lt (fun e => ?_)).trans h1
    obtain ⟨hl, ⟨h2, _⟩ | ⟨g, cap, cur, h2, hg', hh, r⟩⟩ := hO
    · rw [h2] at e; simp [Value.ownBlock] at e
    · rw [h2] at e
      simp only [Value.ownBlock, Option.some.injEq] at e
      rw [← e, hR] at hh
      simp at hh
  · unfold VOwn
    rw [List.length_append, ← vc_snoc]
    exact ho
theorem VOwn.far {w : World} {t : TypeId} {B : Nat} {v : Value} {l : List V} (h : VOwn w t B v l) {g : Nat} (hg : ∀ k, v.ownBlock = some k → k ≠ g) (i : Nat) (u : Value) : VOwn (w.setCell ⟨g, i, none⟩ u) t B v l :=
  ownsRow_setCell_other h (a := ⟨g, i, none⟩) (fun e => hg g e rfl) u
theorem RdAt.far {w : World} {b : Nat} {s : ByteArray} {p : Nat} {e : Int} (h : RdAt w b s p e) {g : Nat} (hg : b ≠ g) (i : Nat) (u : Value) : RdAt (w.setCell ⟨g, i, none⟩ u) b s p e :=
  (heap_far w ⟨g, i, none⟩ b hg u).trans h

set_option maxRecDepth 100000 in
set_option maxHeartbeats 1600000 in
theorem Values_any (s : ByteArray) (w : World) (hs : s.size ≤ 9223372036854775000) :
    Calls Tryd.prog 18 #[.string s] w fun e w' => ∃ v, e = .returned (.tuple #[v, .int .i64 (valsE s).2]) ∧ VOwn w' 23 w.heap.size v (valsE s).1 ∧ Below w.heap.size w w' := by
  obtain ⟨i0, hi0, hz0, hz1, hz2⟩ := info_parts infoVal
  obtain ⟨F, hF⟩ : ∃ F, F = valsL s := ⟨_, rfl⟩
  have hfin : ∀ (W : World) (v : Value) (p : Nat) (e : Int) (out : List V), Mid s w W v p e out → (p, e, out) = F → out.length ≤ 255 → True := fun _ _ _ _ _ _ _ _ => trivial
  clear hfin
  have hF' : rdLoop s (numS s 0 0 1).2.2 (numS s 0 0 1).1 (numS s 0 0 1).2.1 [] = F := by rw [hF]; rfl
  have hk0 := num_lt s 0 0 1
  have hp0 := num_le s 0 0 1 (Nat.zero_le _)
  obtain ⟨k0, hk⟩ : ∃ k, k = (numS s 0 0 1).2.2 := ⟨_, rfl⟩
  obtain ⟨p0, hp⟩ : ∃ p, p = (numS s 0 0 1).1 := ⟨_, rfl⟩
  obtain ⟨e0, he⟩ : ∃ e, e = (numS s 0 0 1).2.1 := ⟨_, rfl⟩
  rw [← hk, ← hp, ← he] at hF'
  rw [← hk] at hk0
  rw [← hp] at hp0
  have HF := Lib.hid hF
  have HF' := Lib.hid hF'
  have hk0 : k0 ≤ 255 := by omega
  have HK := Lib.hid hk
  have HP := Lib.hid hp
  have HE := Lib.hid he
  clear hF hF' hk hp he
  go_enter Tryd.func18, Tryd.ntmps18
  go_wp2_with fail
  refine (NewR_any s w).mono ?_
  rintro r w1 ⟨rfl, hR1, hB1⟩
  go_wp2_with fail
  refine (Num_one hR1 (by omega) (Nat.zero_le _)).mono ?_
  rintro r w2 ⟨rfl, hR2, hG2⟩
  rw [← HP.out, ← HE.out] at hR2
  rw [← HK.out]
  have hB2 : Below w.heap.size w w2 := hB1.grown hG2 hB1.size (fun k hk => by simp at hk; omega)
  go_wp2_with fail
  go_loopw [5, 6] (fun v i wr => ∃ (m p : Nat) (e : Int) (out : List V), i = .int .i64 m ∧ Mid s w wr v p e out ∧ out.length + m ≤ 255 ∧ rdLoop s m p e out = F) (fun _ i _ => (intOf i).toNat)
  case atStart => exact ⟨k0, p0, e0, [], rfl, ⟨hR2, hp0, ⟨rfl, .inl ⟨rfl, rfl⟩⟩, hB2⟩, by simpa using hk0, HF'.out⟩
  case round =>
    obtain ⟨m, p, e, out, rfl, hM, hlen, hrd⟩ := hrel
    have hEnd : (m = 0 ∨ ¬ e = 0) → (p, e, out) = F := by
      rintro (h | h)
      · subst h; exact hrd
      · cases m with
        | zero => exact hrd
        | succ j => exact rdLoop_no hrd h
    by_cases hgo : m = 0 ∨ ¬ e = 0
    · have hF2 := Lib.hid (hEnd hgo)
      obtain ⟨ao, c, rfl⟩ := hM.own.slice
      have hRw := Row_any (cap := c) (by omega) hM.own.at_
      have hve : valsE s = if e ≠ 0 ∨ p ≠ s.size ∨ (rowE out).2 ≠ 0 ∨ bs (rowE out).1 ≠ s then ([], 6) else (out, 0) := by
        have h := hF2.out.trans HF.out
        unfold valsE
        rw [← h]
      obtain ⟨S, hS⟩ : ∃ S, S = bs (rowE out).1 := ⟨_, rfl⟩
      obtain ⟨E, hE⟩ : ∃ E, E = (rowE out).2 := ⟨_, rfl⟩
      rw [← hS, ← hE] at hRw hve
      obtain ⟨G, hG⟩ : ∃ G, G = (if e = 0 then (if p = s.size then (0 : Int) else 5) else e) := ⟨_, rfl⟩
      have hG0 : G = 0 ↔ e = 0 ∧ p = s.size := by
        rw [hG]
        by_cases h1 : e = 0
        · by_cases h2 : p = s.size
          · simp [h1, h2]
          · simp [h1, h2]
        · simp [h1]
      have HRW := Lib.hid hRw
      have HVE := Lib.hid hve
      have HG := Lib.hid hG
      have HG0 := Lib.hid hG0
      have HM := Lib.hid hM
      have HLEN := Lib.hid hlen
      have hsz := hM.below.size
      clear hRw hve hG hG0 hM hlen hrd hEnd hS hE
      by_cases hm0 : m = 0
      · clear hgo
        subst hm0
        go_wp2_with fail
        refine HRW.out.mono ?_
        rintro r w3 ⟨rfl, hB3⟩
        have hR3 := HM.out.rd.below hB3
        have hB03 := HM.out.below.trans (hB3.mono hsz)
        have hO3 := HM.out.own.below hB3
        go_wp2_with fail
        refine (End_any hR3 hs HM.out.le).mono ?_
        rintro r w4 ⟨rfl, hB4⟩
        rw [← HG.out]
        have hB04 : Below w.heap.size w w4 := hB03.grown hB4 hB03.size (fun k hk => by simp at hk; omega)
        by_cases hGz : G = 0
        · have hep := HG0.out.1 hGz
          by_cases hEz : E = 0
          · by_cases hSs : S = s
            · have hv : valsE s = (out, 0) := by
                have h := HVE.out
                rw [if_neg (by rintro (h | h | h | h) <;> simp_all)] at h
                exact h
              have HV := Lib.hid hv
              clear hv hep
              subst hGz hEz
              go_wp2
              go_ret2
              exact ⟨.slice ao out.length c, by rw [HV.out]; rfl, by rw [HV.out]; exact VOwn.only hO3 hB4 hR3 (by decide), hB04⟩
            · have hv : valsE s = ([], 6) := by
                have h := HVE.out
                rw [if_pos (.inr (.inr (.inr hSs)))] at h
                exact h
              have HV := Lib.hid hv
              have hq1 : (S.toList == s.toList) = false := str_ne hSs
              clear hv hep
              subst hGz hEz
              go_wp2
              go_ret2
              exact ⟨.slice none 0 0, by rw [HV.out]; rfl, by rw [HV.out]; exact ⟨rfl, .inl ⟨rfl, rfl⟩⟩, hB04⟩
          · have hv : valsE s = ([], 6) := by
              have h := HVE.out
              rw [if_pos (.inr (.inr (.inl hEz)))] at h
              exact h
            have HV := Lib.hid hv
            have hq1 : (E != 0) = true := by simpa using hEz
            clear hv hep
            subst hGz
            go_wp2
            go_ret2
            exact ⟨.slice none 0 0, by rw [HV.out]; rfl, by rw [HV.out]; exact ⟨rfl, .inl ⟨rfl, rfl⟩⟩, hB04⟩
        · have hv : valsE s = ([], 6) := by
            have h := HVE.out
            have hn : ¬ (e = 0 ∧ p = s.size) := fun hh => hGz (HG0.out.2 hh)
            rw [if_pos (by by_cases h1 : e = 0
                           · exact .inr (.inl (fun h2 => hn ⟨h1, h2⟩))
                           · exact .inl h1)] at h
            exact h
          have HV := Lib.hid hv
          have hq1 : (G != 0) = true := by simpa using hGz
          clear hv
          go_wp2
          go_ret2
          exact ⟨.slice none 0 0, by rw [HV.out]; rfl, by rw [HV.out]; exact ⟨rfl, .inl ⟨rfl, rfl⟩⟩, hB04⟩
      · have he0 : ¬ e = 0 := by omega
        have he2 : (e == 0) = false := by simpa using he0
        obtain ⟨j, rfl⟩ : ∃ j, m = j + 1 := ⟨m - 1, by omega⟩
        clear hgo
        go_wp2_with fail
        refine (Err_any HM.out.rd).mono ?_
        rintro r w3 ⟨rfl, rfl⟩
        go_wp2_with fail
        refine HRW.out.mono ?_
        rintro r w3 ⟨rfl, hB3⟩
        have hR3 := HM.out.rd.below hB3
        have hB03 := HM.out.below.trans (hB3.mono hsz)
        have hO3 := HM.out.own.below hB3
        go_wp2_with fail
        refine (End_any hR3 hs HM.out.le).mono ?_
        rintro r w4 ⟨rfl, hB4⟩
        rw [← HG.out]
        have hB04 : Below w.heap.size w w4 := hB03.grown hB4 hB03.size (fun k hk => by simp at hk; omega)
        by_cases hGz : G = 0
        · have hep := HG0.out.1 hGz
          by_cases hEz : E = 0
          · by_cases hSs : S = s
            · have hv : valsE s = (out, 0) := by
                have h := HVE.out
                rw [if_neg (by rintro (h | h | h | h) <;> simp_all)] at h
                exact h
              have HV := Lib.hid hv
              clear hv hep
              subst hGz hEz
              go_wp2
              go_ret2
              exact ⟨.slice ao out.length c, by rw [HV.out]; rfl, by rw [HV.out]; exact VOwn.only hO3 hB4 hR3 (by decide), hB04⟩
            · have hv : valsE s = ([], 6) := by
                have h := HVE.out
                rw [if_pos (.inr (.inr (.inr hSs)))] at h
                exact h
              have HV := Lib.hid hv
              have hq1 : (S.toList == s.toList) = false := str_ne hSs
              clear hv hep
              subst hGz hEz
              go_wp2
              go_ret2
              exact ⟨.slice none 0 0, by rw [HV.out]; rfl, by rw [HV.out]; exact ⟨rfl, .inl ⟨rfl, rfl⟩⟩, hB04⟩
          · have hv : valsE s = ([], 6) := by
              have h := HVE.out
              rw [if_pos (.inr (.inr (.inl hEz)))] at h
              exact h
            have HV := Lib.hid hv
            have hq1 : (E != 0) = true := by simpa using hEz
            clear hv hep
            subst hGz
            go_wp2
            go_ret2
            exact ⟨.slice none 0 0, by rw [HV.out]; rfl, by rw [HV.out]; exact ⟨rfl, .inl ⟨rfl, rfl⟩⟩, hB04⟩
        · have hv : valsE s = ([], 6) := by
            have h := HVE.out
            have hn : ¬ (e = 0 ∧ p = s.size) := fun hh => hGz (HG0.out.2 hh)
            rw [if_pos (by by_cases h1 : e = 0
                           · exact .inr (.inl (fun h2 => hn ⟨h1, h2⟩))
                           · exact .inl h1)] at h
            exact h
          have HV := Lib.hid hv
          have hq1 : (G != 0) = true := by simpa using hGz
          clear hv
          go_wp2
          go_ret2
          exact ⟨.slice none 0 0, by rw [HV.out]; rfl, by rw [HV.out]; exact ⟨rfl, .inl ⟨rfl, rfl⟩⟩, hB04⟩
    · obtain ⟨j, rfl⟩ : ∃ j, m = j + 1 := ⟨m - 1, by omega⟩
      obtain rfl : e = 0 := by omega
      have hrd' := rdLoop_go hrd rfl
      have hvl := rdVal_le s p 0 hM.le
      have hk1 := num_lt s p 0 1
      have hp1 := num_le s p 0 1 hM.le
      obtain ⟨q, hq⟩ : ∃ q, q = rdVal s p 0 := ⟨_, rfl⟩
      rw [← hq] at hrd' hvl
      unfold rdVal at hq
      obtain ⟨k1, hk⟩ : ∃ k, k = (numS s p 0 1).2.2 := ⟨_, rfl⟩
      obtain ⟨p1, hp⟩ : ∃ k, k = (numS s p 0 1).1 := ⟨_, rfl⟩
      obtain ⟨e1, he⟩ : ∃ k, k = (numS s p 0 1).2.1 := ⟨_, rfl⟩
      rw [← hk] at hk1
      rw [← hp] at hp1
      rw [← hk, ← hp, ← he] at hq
      have hk255 : k1 ≤ 255 := by omega
      have HQ := Lib.hid hq
      have HR := Lib.hid hrd'
      have HKK := Lib.hid hk
      have HPP := Lib.hid hp
      have HEE := Lib.hid he
      have HRD := Lib.hid hrd
      have HL : Hid (out.length + (j + 1) ≤ 255) := hlen
      have hsz := hM.below.size
      obtain ⟨ao, c, rfl⟩ := hM.own.slice
      clear hq hrd hrd' hk hp he hgo hEnd hk1
      go_wp2_with fail
      refine (Err_any hM.rd).mono ?_
      rintro r w3 ⟨rfl, rfl⟩
      go_wp2_with fail
      refine (Num_one hM.rd (by omega) hM.le).mono ?_
      rintro r w3 ⟨rfl, hR3, hG3⟩
      rw [← HPP.out, ← HEE.out] at hR3
      rw [← HKK.out]
      have hB3 : Below w.heap.size w w3 := hM.below.grown hG3 hsz (fun k hk => by simp at hk; omega)
      have hO3 := hM.own.only hG3 hM.rd (by decide)
      have hgb : w3.heap.size ≠ w.heap.size := by have := hR3.lt; omega
      have hOlt : ∀ k, (Value.slice ao out.length c).ownBlock = some k → k ≠ w3.heap.size := fun k hk => Nat.ne_of_lt (World.ownsRow.lt hO3 k hk).2
      have HOLT := Lib.hid hOlt
      clear hOlt
      by_cases hk1 : k1 = 1
      · have hq1 := HQ.out
        rw [if_pos hk1] at hq1
        have hx8 := num_lt s p1 e1 8
        have hp8 := num_le s p1 e1 8 hp1
        obtain ⟨x8, hx⟩ : ∃ k, k = (numS s p1 e1 8).2.2 := ⟨_, rfl⟩
        obtain ⟨p8, hp⟩ : ∃ k, k = (numS s p1 e1 8).1 := ⟨_, rfl⟩
        obtain ⟨e8, he⟩ : ∃ k, k = (numS s p1 e1 8).2.1 := ⟨_, rfl⟩
        rw [← hx] at hx8
        rw [← hp] at hp8
        rw [← hx, ← hp, ← he] at hq1
        have HQ1 := Lib.hid hq1
        have HX := Lib.hid hx
        have HP8 := Lib.hid hp
        have HE8 := Lib.hid he
        clear hq1 hx hp he HQ hx8
        subst hk1
        have hRa := hR3.alloc (.cells #[.int .i64 1, .int .i64 0, .string ⟨#[]⟩] 23)
        have hOa := hO3.alloc (.cells #[.int .i64 1, .int .i64 0, .string ⟨#[]⟩] 23)
        have hBa := hB3.alloc hB3.size (.cells #[.int .i64 1, .int .i64 0, .string ⟨#[]⟩] 23)
        have hVa : (w3.alloc (.cells #[.int .i64 1, .int .i64 0, .string ⟨#[]⟩] 23)).heap[w3.heap.size]? = some (.cells #[.int .i64 1, .int .i64 0, .string ⟨#[]⟩] 23 (0, 0)) := heap_alloc_new w3 _
        go_wp2_with fail
        refine (Num_eight hRa (by omega) hp1).mono ?_
        rintro r w4 ⟨rfl, hR4, hG4⟩
        rw [← HP8.out, ← HE8.out] at hR4
        rw [← HX.out]
        have hB4 : Below w.heap.size w w4 := hBa.grown hG4 hBa.size (fun k hk => by simp at hk; omega)
        have hO4 : VOwn w4 23 w.heap.size (.slice ao out.length c) out := VOwn.only hOa hG4 hRa (by decide)
        have hV4 : w4.heap[w3.heap.size]? = some (.cells #[.int .i64 1, .int .i64 0, .string ⟨#[]⟩] 23 (0, 0)) := (hG4.block _ (lt_of_block hVa) (fun e => hgb (Option.some.inj e))).trans hVa
        obtain ⟨v0, v1, v2, vf⟩ := cells3 hV4
        have hR5 := hR4.far (g := w3.heap.size) (Ne.symm hgb) 1 (.int .i64 (wrap64 (x8 : Int)))
        have hO5 := hO4.far (g := w3.heap.size) HOLT.out 1 (.int .i64 (wrap64 (x8 : Int)))
        have hB5 : Below w.heap.size w (w4.setCell ⟨w3.heap.size, 1, none⟩ (.int .i64 (wrap64 (x8 : Int)))) := hB4.setCell (show w.heap.size ≤ (⟨w3.heap.size, 1, none⟩ : Addr).block from hB3.size) _
        have HNB : Hid (((w4.setCell ⟨w3.heap.size, 1, none⟩ (.int .i64 (wrap64 (x8 : Int)))).alloc (.cells #[.int .i64 1, .int .i64 (wrap64 (x8 : Int)), .string ⟨#[]⟩] 23)).heap[w4.heap.size]? = some (.cells #[.int .i64 1, .int .i64 (wrap64 (x8 : Int)), .string ⟨#[]⟩] 23 (0, 0))) := Lib.hid (by rw [show w4.heap.size = (w4.setCell ⟨w3.heap.size, 1, none⟩ (.int .i64 (wrap64 (x8 : Int)))).heap.size from by simp]; exact heap_alloc_new _ _)
        have HBS : Hid (w.heap.size ≤ ((w4.setCell ⟨w3.heap.size, 1, none⟩ (.int .i64 (wrap64 (x8 : Int)))).alloc (.cells #[.int .i64 1, .int .i64 (wrap64 (x8 : Int)), .string ⟨#[]⟩] 23)).heap.size) := Lib.hid (by have := hB5.size; simp; simp at this; omega)
        go_wp2_with (at_builtin; refine wpList_append_own _ rfl _ _ 34 rfl w.heap.size 23 i0 _ 3 32 Tryd.underlying34 hi0 hz0 hz1 hz2 rfl (by decide) (.slice ao out.length c) out.length (out.flatMap vcells) rfl (hO5.alloc _) ⟨w4.heap.size, 0, none⟩ 1 1 [.int .i64 1, .int .i64 (wrap64 (x8 : Int)), .string ⟨#[]⟩] rfl rfl (World.news_of_block HNB.out) (by intro u hu; simp at hu; rcases hu with rfl | rfl | rfl <;> rfl) (by unfold maxLen; omega) (by omega) HBS.out ?_; intro v' w6 hown' hgrow' hnil')
        have hM' := mid_next (v := ⟨1, wrap64 (x8 : Int), ⟨#[]⟩⟩) hR5 hp8 hO5 hB5 hgrow' hown'
        go_roundw
        case rel => exact ⟨j, p8, e8, _, rfl, hM', by simp; omega, by have := HR.out; rw [HQ1.out] at this; exact this⟩
        case measure => simp [intOf] <;> omega
      · by_cases hk2 : k1 = 2
        · have hq1 := HQ.out
          rw [if_neg hk1, if_pos hk2] at hq1
          have hx2 := num_lt s p1 e1 1
          have hp2 := num_le s p1 e1 1 hp1
          obtain ⟨x2, hx⟩ : ∃ k, k = (numS s p1 e1 1).2.2 := ⟨_, rfl⟩
          obtain ⟨p2, hp⟩ : ∃ k, k = (numS s p1 e1 1).1 := ⟨_, rfl⟩
          obtain ⟨e2, he⟩ : ∃ k, k = (numS s p1 e1 1).2.1 := ⟨_, rfl⟩
          rw [← hx] at hx2
          rw [← hp] at hp2
          rw [← hx, ← hp, ← he] at hq1
          have hp3 := bytes_le s p2 e2 x2 hp2
          obtain ⟨p3, hpp⟩ : ∃ k, k = (bytesS s p2 e2 x2).1 := ⟨_, rfl⟩
          obtain ⟨e3, hee⟩ : ∃ k, k = (bytesS s p2 e2 x2).2.1 := ⟨_, rfl⟩
          obtain ⟨S3, hss⟩ : ∃ k, k = bs (bytesS s p2 e2 x2).2.2 := ⟨_, rfl⟩
          rw [← hpp] at hp3
          rw [← hpp, ← hee, ← hss] at hq1
          have hx255 : x2 ≤ 255 := by omega
          have HQ1 := Lib.hid hq1
          have HX := Lib.hid hx
          have HP2 := Lib.hid hp
          have HE2 := Lib.hid he
          have HP3 := Lib.hid hpp
          have HE3 := Lib.hid hee
          have HS3 := Lib.hid hss
          clear hq1 hx hp he HQ hx2 hpp hee hss hk1
          subst hk2
          have hRa := hR3.alloc (.cells #[.int .i64 2, .int .i64 0, .string ⟨#[]⟩] 23)
          have hOa := hO3.alloc (.cells #[.int .i64 2, .int .i64 0, .string ⟨#[]⟩] 23)
          have hBa := hB3.alloc hB3.size (.cells #[.int .i64 2, .int .i64 0, .string ⟨#[]⟩] 23)
          have hVa : (w3.alloc (.cells #[.int .i64 2, .int .i64 0, .string ⟨#[]⟩] 23)).heap[w3.heap.size]? = some (.cells #[.int .i64 2, .int .i64 0, .string ⟨#[]⟩] 23 (0, 0)) := heap_alloc_new w3 _
          go_wp2_with fail
          refine (Num_one hRa (by omega) hp1).mono ?_
          rintro r w4 ⟨rfl, hR4, hG4⟩
          rw [← HP2.out, ← HE2.out] at hR4
          rw [← HX.out]
          have hB4 : Below w.heap.size w w4 := hBa.grown hG4 hBa.size (fun k hk => by simp at hk; omega)
          have hO4 : VOwn w4 23 w.heap.size (.slice ao out.length c) out := VOwn.only hOa hG4 hRa (by decide)
          have hV4 : w4.heap[w3.heap.size]? = some (.cells #[.int .i64 2, .int .i64 0, .string ⟨#[]⟩] 23 (0, 0)) := (hG4.block _ (lt_of_block hVa) (fun e => hgb (Option.some.inj e))).trans hVa
          go_wp2_with fail
          refine (Bytes_any x2 hR4 (by omega) hp2 (by omega)).mono ?_
          rintro r w5 ⟨rfl, hR5, hG5⟩
          rw [← HP3.out, ← HE3.out] at hR5
          rw [← HS3.out]
          have hB5 : Below w.heap.size w w5 := hB4.grown hG5 hB4.size (fun k hk => by simp at hk; omega)
          have hO5 : VOwn w5 23 w.heap.size (.slice ao out.length c) out := VOwn.only hO4 hG5 hR4 (by decide)
          have hV5 : w5.heap[w3.heap.size]? = some (.cells #[.int .i64 2, .int .i64 0, .string ⟨#[]⟩] 23 (0, 0)) := (hG5.block _ (lt_of_block hV4) (fun e => hgb (Option.some.inj e))).trans hV4
          obtain ⟨v0, v1, v2, vf⟩ := cells3 hV5
          have hR6 := hR5.far (g := w3.heap.size) (Ne.symm hgb) 2 (.string S3)
          have hO6 := hO5.far (g := w3.heap.size) HOLT.out 2 (.string S3)
          have hB6 : Below w.heap.size w (w5.setCell ⟨w3.heap.size, 2, none⟩ (.string S3)) := hB5.setCell (show w.heap.size ≤ (⟨w3.heap.size, 2, none⟩ : Addr).block from hB3.size) _
          have HNB : Hid (((w5.setCell ⟨w3.heap.size, 2, none⟩ (.string S3)).alloc (.cells #[.int .i64 2, .int .i64 0, .string S3] 23)).heap[w5.heap.size]? = some (.cells #[.int .i64 2, .int .i64 0, .string S3] 23 (0, 0))) := Lib.hid (by rw [show w5.heap.size = (w5.setCell ⟨w3.heap.size, 2, none⟩ (.string S3)).heap.size from by simp]; exact heap_alloc_new _ _)
          have HBS : Hid (w.heap.size ≤ ((w5.setCell ⟨w3.heap.size, 2, none⟩ (.string S3)).alloc (.cells #[.int .i64 2, .int .i64 0, .string S3] 23)).heap.size) := Lib.hid (by have := hB6.size; simp; simp at this; omega)
          go_wp2_with (at_builtin; refine wpList_append_own _ rfl _ _ 34 rfl w.heap.size 23 i0 _ 3 32 Tryd.underlying34 hi0 hz0 hz1 hz2 rfl (by decide) (.slice ao out.length c) out.length (out.flatMap vcells) rfl (hO6.alloc _) ⟨w5.heap.size, 0, none⟩ 1 1 [.int .i64 2, .int .i64 0, .string S3] rfl rfl (World.news_of_block HNB.out) (by intro u hu; simp at hu; rcases hu with rfl | rfl | rfl <;> rfl) (by unfold maxLen; omega) (by omega) HBS.out ?_; intro v' w6 hown' hgrow' hnil')
          have hM' := mid_next (v := ⟨2, 0, S3⟩) hR6 hp3 hO6 hB6 hgrow' hown'
          go_roundw
          case rel => exact ⟨j, p3, e3, _, rfl, hM', by simp; omega, by have := HR.out; rw [HQ1.out] at this; exact this⟩
          case measure => simp [intOf] <;> omega
        · have hq1 := HQ.out
          rw [if_neg hk1, if_neg hk2] at hq1
          have HQ1 := Lib.hid hq1
          have hk1i : ¬ ((k1 : Int) = 1) := by omega
          have hk2i : ¬ ((k1 : Int) = 2) := by omega
          clear hq1 HQ
          have hRa := hR3.alloc (.cells #[.int .i64 k1, .int .i64 0, .string ⟨#[]⟩] 23)
          have hOa := hO3.alloc (.cells #[.int .i64 k1, .int .i64 0, .string ⟨#[]⟩] 23)
          have hBa := hB3.alloc hB3.size (.cells #[.int .i64 k1, .int .i64 0, .string ⟨#[]⟩] 23)
          have HNB : Hid (((w3.alloc (.cells #[.int .i64 k1, .int .i64 0, .string ⟨#[]⟩] 23)).alloc (.cells #[.int .i64 k1, .int .i64 0, .string ⟨#[]⟩] 23)).heap[w3.heap.size + 1]? = some (.cells #[.int .i64 k1, .int .i64 0, .string ⟨#[]⟩] 23 (0, 0))) := Lib.hid (by rw [show w3.heap.size + 1 = (w3.alloc (.cells #[.int .i64 k1, .int .i64 0, .string ⟨#[]⟩] 23)).heap.size from by simp]; exact heap_alloc_new _ _)
          have HBS : Hid (w.heap.size ≤ ((w3.alloc (.cells #[.int .i64 k1, .int .i64 0, .string ⟨#[]⟩] 23)).alloc (.cells #[.int .i64 k1, .int .i64 0, .string ⟨#[]⟩] 23)).heap.size) := Lib.hid (by have := hB3.size; simp; omega)
          go_wp2_with (at_builtin; refine wpList_append_own _ rfl _ _ 34 rfl w.heap.size 23 i0 _ 3 32 Tryd.underlying34 hi0 hz0 hz1 hz2 rfl (by decide) (.slice ao out.length c) out.length (out.flatMap vcells) rfl (hOa.alloc _) ⟨w3.heap.size + 1, 0, none⟩ 1 1 [.int .i64 k1, .int .i64 0, .string ⟨#[]⟩] rfl rfl (World.news_of_block HNB.out) (by intro u hu; simp at hu; rcases hu with rfl | rfl | rfl <;> rfl) (by unfold maxLen; omega) (by omega) HBS.out ?_; intro v' w6 hown' hgrow' hnil')
          have hM' := mid_next (v := ⟨k1, 0, ⟨#[]⟩⟩) hRa hp1 hOa hBa hgrow' hown'
          go_roundw
          case rel => exact ⟨j, p1, e1, _, rfl, hM', by simp; omega, by have := HR.out; rw [HQ1.out] at this; exact this⟩
          case measure => simp [intOf] <;> omega
end Go.Proofs.YtdpipfifoinncaaDoor
