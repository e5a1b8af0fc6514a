import Derived.Test.YtcdlplbccblbaaaGreatQk
import Derived.Test.YtcdlplbccblbaaaGreatQl0
namespace Go.Proofs.YtcdlplbccblbaaaGreat
open Go.RowKit
set_option linter.unusedVariables false
set_option linter.unusedSimpArgs false

/-! ### The reference's search -/
theorem IO.lt {w : World} {base : Nat} {v : Value} {l : List Int} (h : IO w base v l) : ∀ k, v.ownBlock = Option.some k → k < w.heap.size := fun k hk => (World.ownsRow.lt h k hk).2
theorem IO.one (w : World) (x : Int) : IO (w.alloc (.cells #[.int .i64 x] 3)) w.heap.size (.slice (Option.some ⟨w.heap.size, 0, none⟩) 1 1) [x] :=
  ⟨rfl, .inr ⟨w.heap.size, 1, #[.int .i64 x], rfl, Nat.le_refl _, heap_alloc_new w _, Nat.le_refl _, by simp [maxLen], rfl, rfl⟩⟩
/-- What the search tells. -/
def SrchR (w : World) (r : Bool × List Int × List Int) (e : Ending) (w' : World) : Prop :=
  ∃ wv sv, e = .returned (.tuple #[wv, sv]) ∧ IO w' w.heap.size wv r.2.2 ∧ IO w' w.heap.size sv r.2.1 ∧ Below w.heap.size w w' ∧ ∀ k, some k = wv.ownBlock → some k ≠ sv.ownBlock
set_option maxRecDepth 100000 in
set_option maxHeartbeats 4000000 in
theorem rsearch_step {v : Value} {M : List (Nm × List Ak)} {N : Nat} (hM : Mb 200 M) (hnd : (M.map (·.1)).Nodup) {fr tg : Int} {seen : List Int} {f : Int → List Int → Bool × List Int × List Int}
    (hpre : ∀ b s, ∃ t, (f b s).2.1 = s ++ t) (hpath : ∀ b s, (f b s).2.2.length ≤ N) (hfound : ∀ b s, (f b s).1 = true ↔ (f b s).2.2 ≠ []) (Gd : List Int → Prop) (hgl : ∀ s, Gd s → s.length ≤ 500000) (hlen : ∀ b s, b ∈ rblkM M fr → b ∉ s → Gd s → Gd (f b s).2.1) (hN : N ≤ 1000000) (hg0 : Gd (seen ++ [fr]))
    (hIH : ∀ b s w, b ∈ rblkM M fr → b ∉ s → (∃ t, s = seen ++ fr :: t) → Gd s → RT w v M → ∀ sv, IO w 0 sv s → Calls Tryz.prog 50 #[v, .int .i64 b, .int .i64 tg, sv] w (SrchR w (f b s)))
    {w : World} (hT : RT w v M) {sv : Value} (hS : IO w 0 sv seen) :
    Calls Tryz.prog 50 #[v, .int .i64 fr, .int .i64 tg, sv] w (SrchR w (srchO fr (srchL f tg (rblkM M fr) (seen ++ [fr])))) := by
  have hsl : seen.length < 1000000 := by
    have := hgl _ hg0
    rw [List.length_append] at this
    omega
  obtain ⟨ta, tc, rfl⟩ := hT.form
  obtain ⟨sa, sc, rfl, -, -⟩ := hS.form
  have him := IO.made w
  have hsA : SrcAt (w.alloc (.cells #[] 3)) sa (seen.map iv) := (hS.below ((Below.refl w.heap.size w).alloc (Nat.le_refl _) (.cells #[] 3))).src
  have hBA : Below w.heap.size w (w.alloc (.cells #[] 3)) := (Below.refl _ _).alloc (Nat.le_refl _) _
  have hcon := fun {w'} (hb : Below w.heap.size w w') => rblockers_m (hT.below hb) hM hnd fr
  have HCON := Lib.hid (fun w' (hb : Below w.heap.size w w') => hcon hb)
  clear hcon
  obtain ⟨l, hl⟩ : ∃ l, l = rblkM M fr := ⟨_, rfl⟩
  have hll : l.length ≤ 1000 := by
    rw [hl]
    unfold rblkM
    split
    · simp
    · unfold rblkQ
      split
      · simp
      · exact Nat.le_trans (rblkTo_len _ _ _) (hM.qL _)
  rw [← hl] at hIH HCON hlen ⊢
  clear hl
  have HIH := Lib.hid hIH
  have HPRE := Lib.hid hpre
  have HPATH := Lib.hid hpath
  have HFOUND := Lib.hid hfound
  have HLEN := Lib.hid hlen
  have HT := Lib.hid hT
  have hsnil := hS.src_none
  clear hIH hpre hpath hfound hlen hT
  go_enter Tryz.func50, Tryz.ntmps50
  go_upto_region 2 with (first
    | (at_builtin; refine wpList_append_io rfl _ _ rfl w.heap.size _ [] seen rfl him sa _ sc rfl rfl hsnil hsA (by simp; omega) (by simp) ?_; intro v5 w5 ho5 hg5)
    | (at_builtin; refine wpList_append_io rfl _ _ rfl w.heap.size _ seen [fr] rfl (ho5.below ((Below.refl w5.heap.size w5).alloc (Nat.le_refl _) (.cells #[.int .i64 fr] 3))) (some ⟨w5.heap.size, 0, none⟩) 1 1 rfl rfl (fun h => by simp at h) (src_int w5 fr) (by simp; omega) (by have := hg5.size; simp at this ⊢; omega) ?_; intro v6 w6 ho6 hg6))
  have hB5 : Below w.heap.size w w5 := him.grownBelow hBA hg5 hBA.size
  have hB5a : Below w.heap.size w (w5.alloc (.cells #[.int .i64 fr] 3)) := hB5.alloc hB5.size _
  have hB6 : Below w.heap.size w w6 := (ho5.below ((Below.refl w5.heap.size w5).alloc (Nat.le_refl _) (.cells #[.int .i64 fr] 3))).grownBelow hB5a hg6 hB5a.size
  have ho6' : IO w6 w.heap.size v6 (seen ++ [fr]) := ho6
  clear ho6 ho5 hg5 hg6 hB5 hB5a him hsA hBA hsnil
  go_wp2_with fail
  refine (HCON.out w6 hB6).mono ?_
  rintro e w7 ⟨bv, rfl, hL, hB7⟩
  obtain ⟨ba, bc, rfl, hbc1, hbc2⟩ := hL.form
  unfold maxLen at hbc2
  have hB7w : Below w.heap.size w w7 := hB6.trans (hB7.mono hB6.size)
  have ho7 := ho6'.below hB7
  clear ho6' hB7 hB6
  go_wp2_with fail
  go_loopw [3, 11] (fun sv3 iv' wr => ∃ (i : Nat) (s : List Int), i ≤ l.length ∧ iv' = .int .i64 i ∧ (∃ t, s = seen ++ fr :: t) ∧ Hid (srchL f tg (l.drop i) s = srchL f tg l (seen ++ [fr])) ∧ IO wr w.heap.size sv3 s ∧ Gd s ∧ Below w7.heap.size w7 wr) (fun _ iv' _ => l.length - (intOf iv').toNat)
  case atStart => exact ⟨0, seen ++ [fr], by omega, rfl, ⟨[], rfl⟩, Lib.hid (by simp), ho7, hg0, Below.refl _ _⟩
  case round =>
    clear ho7
    obtain ⟨i, s, hi, rfl, hs, HR, hS3, hsl3, hB⟩ := hrel
    have hBw : Below w.heap.size w wr := hB7w.trans (hB.mono hB7w.size)
    obtain ⟨s3a, s3c, rfl, hs3c1, hs3c2⟩ := hS3.form
    by_cases hlt : i < l.length
    · obtain ⟨b, hb⟩ : ∃ b, b = l[i] := ⟨_, rfl⟩
      have hbm : b ∈ l := by rw [hb]; exact List.getElem_mem hlt
      obtain ⟨gb, rfl, -, -, -, -, hgbl, x0⟩ := (hL.below hB).cell hlt
      rw [← hb] at x0
      have hdrop : l.drop i = b :: l.drop (i + 1) := by rw [List.drop_eq_getElem_cons hlt, ← hb]
      have HR1 : Hid (srchL f tg l (seen ++ [fr]) = if b = tg then (true, s, []) else if b ∈ s then srchL f tg (l.drop (i + 1)) s else if (f b s).1 = true then f b s else srchL f tg (l.drop (i + 1)) (f b s).2.1) := Lib.hid (by
        rw [← HR.out, hdrop]; rfl)
      clear hb hdrop HR
      by_cases hbt : b = tg
      · have hbe : (b == tg) = true := by simpa using hbt
        have HR2 : Hid (srchL f tg l (seen ++ [fr]) = (true, s, [])) := Lib.hid (by rw [HR1.out, if_pos hbt])
        clear hbt
        have hone := IO.one wr fr
        go_wp2_with fail
        go_ret2
        unfold SrchR
        rw [HR2.out]
        refine ⟨_, _, rfl, ?_, ?_, hBw.alloc hBw.size _, fun k' e e2 => ?_⟩
        · simpa [srchO] using hone.base_ hBw.size
        · simpa [srchO] using hS3.below ((Below.refl wr.heap.size wr).alloc (Nat.le_refl _) (.cells #[.int .i64 fr] 3))
        · have h1 := hS3.lt k' e2.symm
          simp [Value.ownBlock] at e
          omega
      · have hbe : (b == tg) = false := by simpa using hbt
        have hcon := rhasn_any (hS3.base_ (Nat.zero_le _)) b
        by_cases hbs : b ∈ s
        · have hds : decide (b ∈ s) = true := by simpa using hbs
          have HR2 : Hid (srchL f tg (l.drop (i + 1)) s = srchL f tg l (seen ++ [fr])) := Lib.hid (by rw [HR1.out, if_neg hbt, if_pos hbs])
          rw [hds] at hcon
          clear hbt hbs hds
          go_wp2_with fail
          refine hcon.mono ?_
          rintro e w8 ⟨rfl, hB8⟩
          go_wp2_with fail
          go_roundw
          case rel => exact ⟨i + 1, s, by omega, by go_num, hs, HR2, hS3.below hB8, hsl3, hB.trans (hB8.mono hB.size)⟩
          case measure => simp [intOf]; omega
        · have hds : decide (b ∈ s) = false := by simpa using hbs
          have HR2 : Hid (srchL f tg l (seen ++ [fr]) = if (f b s).1 = true then f b s else srchL f tg (l.drop (i + 1)) (f b s).2.1) := Lib.hid (by rw [HR1.out, if_neg hbt, if_neg hbs])
          rw [hds] at hcon
          have hcon2 := HIH.out b s
          obtain ⟨rr, hrr⟩ : ∃ rr, rr = f b s := ⟨_, rfl⟩
          rw [← hrr] at hcon2 HR2
          obtain ⟨t1, ht1⟩ : ∃ t, rr.2.1 = s ++ t := by rw [hrr]; exact HPRE.out b s
          have hpl : rr.2.2.length ≤ N := by rw [hrr]; exact HPATH.out b s
          have hfd : rr.1 = true ↔ rr.2.2 ≠ [] := by rw [hrr]; exact HFOUND.out b s
          have hln : Gd rr.2.1 := by rw [hrr]; exact HLEN.out b s hbm hbs hsl3
          have HC2 := Lib.hid hcon2
          have HT1 := Lib.hid ht1
          have HFD := Lib.hid hfd
          have HBS := Lib.hid hbs
          clear hrr hds hbt hbs hcon2 ht1 hfd HR1
          go_wp2_with fail
          refine hcon.mono ?_
          rintro e w8 ⟨rfl, hB8⟩
          have hS8 := hS3.below hB8
          have hB8w : Below w.heap.size w w8 := hBw.trans (hB8.mono hBw.size)
          have x8 := below_cell hB8 (p := ⟨gb, i, none⟩) hgbl x0
          clear hcon x0
          go_wp2_with fail
          refine (HC2.out w8 hbm HBS.out hs hsl3 (HT.out.below hB8w) _ (hS8.base_ (Nat.zero_le _))).mono ?_
          rintro e w9 ⟨wv, sv9, rfl, hW9, hS9, hB9, hdis9⟩
          have hB9w : Below w.heap.size w w9 := hB8w.trans (hB9.mono hB8w.size)
          replace hW9 := hW9.base_ hB8w.size
          replace hS9 := hS9.base_ hB8w.size
          obtain ⟨wya, wyc, rfl, -, -⟩ := hW9.form
          cases hr1 : rr.1 with
          | true =>
            have HR3 : Hid (srchL f tg l (seen ++ [fr]) = rr) := Lib.hid (by rw [HR2.out, if_pos hr1])
            have hne : 0 < rr.2.2.length := List.length_pos_iff.2 (HFD.out.1 hr1)
            have hdn : decide ((0 : Int) < (rr.2.2.length : Int)) = true := by simp; exact hne
            have HR1' := Lib.hid hr1
            have hlo : rr.2.2.length + [fr].length ≤ 1000000000 := by simp; omega
            have hW9a := hW9.below ((Below.refl w9.heap.size w9).alloc (Nat.le_refl _) (.cells #[.int .i64 fr] 3))
            have hB9a : Below w.heap.size w (w9.alloc (.cells #[.int .i64 fr] 3)) := hB9w.alloc hB9w.size _
            clear hr1
            have hlo2 : rr.2.2.length + 1 ≤ maxLen := by unfold maxLen; omega
            have hlo3 : (rr.2.2.length + 1) * 8 ≤ 140737488355328 := by omega
            obtain ⟨i0, hi0, hz0, hz1, hz2⟩ := info_parts infoInt
            go_wp2_with (at_builtin; refine wpList_append_own_at _ rfl _ _ 52 rfl w.heap.size 3 i0 _ 1 8 Tryz.underlying52 hi0 hz0 hz1 hz2 rfl (by decide) _ _ _ rfl hW9a ⟨w9.heap.size, 0, none⟩ 1 1 [.int .i64 fr] rfl rfl (cell_one_new _ _ _) (by simp [Value.oneCell']) hlo2 hlo3 hB9a.size ?_; intro v10 w10 hown10 hg10 hnil10 hat10)
            have ho10 : IO w10 w.heap.size v10 (rr.2.2 ++ [fr]) := by unfold IO; rw [List.length_append, List.map_append]; exact hown10
            have hB10 := hW9a.grownBelow hB9a hg10 hB9a.size
            go_wp2_with fail
            go_ret2
            unfold SrchR
            have hso : srchO fr rr = (true, rr.2.1, rr.2.2 ++ [fr]) := by unfold srchO; rw [if_pos HR1'.out]
            rw [HR3.out, hso]
            refine ⟨_, _, rfl, ho10, (hS9.below ((Below.refl w9.heap.size w9).alloc (Nat.le_refl _) (.cells #[.int .i64 fr] 3))).grown hg10 (fun k' e e2 => hdis9 k' e2 e), hB10, fun k' e e2 => ?_⟩
            rcases hat10 with h' | h'
            · exact hdis9 k' (e.trans h') e2
            · have h1 := (hS9.lt k' e2.symm)
              have e3 : some k' = v10.ownBlock := e
              rw [h'] at e3
              simp at e3
              omega
          | false =>
            have HR3 : Hid (srchL f tg (l.drop (i + 1)) rr.2.1 = srchL f tg l (seen ++ [fr])) := Lib.hid (by rw [HR2.out, hr1]; rfl)
            have hnil : rr.2.2 = [] := by
              cases hx : rr.2.2 with
              | nil => rfl
              | cons a t => exact absurd (HFD.out.2 (by rw [hx]; simp)) (by rw [hr1]; simp)
            have hz : rr.2.2.length = 0 := by rw [hnil]; rfl
            have hdn : decide (0 < rr.2.2.length) = false := by rw [hz]; rfl
            clear hnil hr1 hz
            go_wp2_with fail
            go_roundw
            case rel =>
              obtain ⟨t0, ht0⟩ := hs
              exact ⟨i + 1, rr.2.1, by omega, by go_num, ⟨t0 ++ t1, by rw [HT1.out, ht0]; simp⟩, HR3, hS9, hln, hB.trans ((hB8.trans (hB9.mono hB8.size)).mono hB.size)⟩
            case measure => simp [intOf]; omega
    · obtain rfl : i = l.length := by omega
      go_wp2_with fail
      go_ret2
      rw [← HR.out, List.drop_length]
      exact ⟨_, _, rfl, IO.nil _ _, hS3, hBw, fun k' e => by simp [Value.ownBlock] at e⟩

theorem srch_found (B : Int → List Int) (tg : Int) : ∀ k fr s, (srch B tg k fr s).1 = true ↔ (srch B tg k fr s).2.2 ≠ []
  | 0, fr, s => by simp [srch]
  | k + 1, fr, s => by
    unfold srch srchO
    split
    · simp
    · simp
theorem rblkM_nil {M : List (Nm × List Ak)} {t : Int} (h : forM M t = none) : rblkM M t = [] := by unfold rblkM; rw [h]
theorem nodup_len : ∀ {s U : List Int}, s.Nodup → (∀ x ∈ s, x ∈ U) → s.length ≤ U.length
  | [], U, _, _ => by simp
  | a :: s, U, hn, h => by
    rw [List.nodup_cons] at hn
    have ha : a ∈ U := h a (by simp)
    have ih := nodup_len (U := U.erase a) hn.2 (fun x hx => by
      have hne : x ≠ a := fun e => hn.1 (e ▸ hx)
      exact (List.mem_erase_of_ne hne).2 (h x (by simp [hx])))
    rw [List.length_erase_of_mem ha] at ih
    have := List.length_pos_of_mem ha
    simp
    omega
/-- All that stand in the table, and one more. -/
def allTx (M : List (Nm × List Ak)) (tx : Int) : List Int := tx :: M.flatMap fun p => p.2.map (·.tx)
theorem allTx_len {M : List (Nm × List Ak)} (hM : Mb 200 M) (tx : Int) : (allTx M tx).length ≤ 200001 := by
  have h : ∀ (M : List (Nm × List Ak)), (∀ p ∈ M, p.2.length ≤ 1000) → (M.flatMap fun p => p.2.map (·.tx)).length ≤ 1000 * M.length := by
    intro M
    induction M with
    | nil => intro _; simp
    | cons p M ih =>
      intro h
      have h1 := ih (fun p hp => h p (by simp [hp]))
      have h2 := h p (by simp)
      simp only [List.flatMap_cons, List.length_append, List.length_map, List.length_cons]
      omega
  have h1 := h M hM.2
  have h2 := hM.1
  unfold allTx
  rw [List.length_cons]
  omega
theorem mem_insI {p : Int → Int → Bool} {l : List Int} {x y : Int} (h : y ∈ insI p l x) : y ∈ l ∨ y = x := by
  unfold insI at h
  rw [List.mem_append, List.mem_append] at h
  rcases h with (h | h) | h
  · exact .inl (List.mem_of_mem_take h)
  · simp at h; exact .inr h
  · exact .inl (List.mem_of_mem_drop h)
theorem mem_rblkTo {q : List Ak} {m : Nat} {y : Int} : ∀ k, k ≤ q.length → y ∈ rblkTo q m k → ∃ a ∈ q, a.tx = y
  | 0, _, h => by simp [rblkTo] at h
  | k + 1, hk, h => by
    have hk' : k < q.length := by omega
    have hg : q.getD k ak0 = q[k] := by simp [List.getD, hk']
    unfold rblkTo at h
    split at h
    · exact mem_rblkTo k (by omega) h
    · split at h
      · rcases mem_insI h with h | h
        · exact mem_rblkTo k (by omega) h
        · exact ⟨q[k], List.getElem_mem _, by rw [← hg]; exact h.symm⟩
      · exact mem_rblkTo k (by omega) h
theorem mem_rblkM {M : List (Nm × List Ak)} {t y : Int} (h : y ∈ rblkM M t) (tx : Int) : y ∈ allTx M tx := by
  unfold rblkM at h
  split at h
  · simp at h
  · rename_i n hn
    unfold rblkQ at h
    split at h
    · simp at h
    · obtain ⟨a, ha, rfl⟩ := mem_rblkTo _ (Nat.le_refl _) h
      unfold qL at ha
      cases hf : M.find? fun x => x.1 == n with
      | none => rw [hf] at ha; simp at ha
      | some x =>
        rw [hf] at ha
        unfold allTx
        refine List.mem_cons_of_mem _ (List.mem_flatMap.2 ⟨x, List.mem_of_find?_eq_some hf, List.mem_map_of_mem (by simpa using ha)⟩)
/-- A list of those that were seen. -/
def Gd (M : List (Nm × List Ak)) (tx : Int) (s : List Int) : Prop := s.Nodup ∧ ∀ x ∈ s, x ∈ allTx M tx
theorem Gd.snoc {M : List (Nm × List Ak)} {tx fr : Int} {s : List Int} (h : Gd M tx s) (hf : fr ∈ allTx M tx) (hn : fr ∉ s) : Gd M tx (s ++ [fr]) := by
  refine ⟨?_, fun x hx => ?_⟩
  · rw [List.nodup_append]
    refine ⟨h.1, by simp, fun a ha b hb => ?_⟩
    simp at hb
    subst hb
    exact fun e => hn (e ▸ ha)
  · rw [List.mem_append, List.mem_singleton] at hx
    rcases hx with hx | rfl
    · exact h.2 x hx
    · exact hf
theorem srch_gd {M : List (Nm × List Ak)} {tx tg : Int} : ∀ k fr s, Gd M tx s → fr ∈ allTx M tx → fr ∉ s → Gd M tx (srch (rblkM M) tg k fr s).2.1
  | 0, fr, s, h, hf, hn => h.snoc hf hn
  | k + 1, fr, s, h, hf, hn => by
    have hL : ∀ l s, (∀ b ∈ l, b ∈ allTx M tx) → Gd M tx s → Gd M tx (srchL (srch (rblkM M) tg k) tg l s).2.1 := by
      intro l
      induction l with
      | nil => intro s _ h; exact h
      | cons b l ih =>
        intro s hl h
        unfold srchL
        split
        · exact h
        · split
          · exact ih s (fun b hb => hl b (by simp [hb])) h
          · rename_i hbs
            have h1 := srch_gd (tg := tg) k b s h (hl b (by simp)) hbs
            split
            · exact h1
            · exact ih _ (fun b hb => hl b (by simp [hb])) h1
    have h2 := hL (rblkM M fr) (s ++ [fr]) (fun b hb => mem_rblkM hb tx) (h.snoc hf hn)
    unfold srch srchO
    split <;> exact h2
/-- The search: W tells who waits. -/
theorem rsearch_any {v : Value} {M : List (Nm × List Ak)} {W : List (Int × Nm)} (hM : Mb 200 M) (hnd : (M.map (·.1)).Nodup) (hW : ∀ t, wOf W t = none → forM M t = none) {tx tg : Int} (k : Nat) (hk : k ≤ 1000) :
    ∀ (fr : Int) (seen : List Int) (w : World), fr ∉ seen → nW W seen ≤ k → Gd M tx seen → fr ∈ allTx M tx → RT w v M → ∀ sv, IO w 0 sv seen → Calls Tryz.prog 50 #[v, .int .i64 fr, .int .i64 tg, sv] w (SrchR w (srch (rblkM M) tg k fr seen)) := by
  have hgl : ∀ s, Gd M tx s → s.length ≤ 500000 := fun s h => Nat.le_trans (nodup_len h.1 h.2) (Nat.le_trans (allTx_len hM tx) (by omega))
  induction k with
  | zero =>
    intro fr seen w hfr hn hg hf hT sv hS
    have hl : rblkM M fr = [] := by
      cases hw : wOf W fr with
      | none => exact rblkM_nil (hW fr hw)
      | some n => have := nW_less hw hfr; omega
    have h := rsearch_step (tg := tg) (f := fun _ s => (false, s, [])) (N := 0) hM hnd (fun _ s => ⟨[], by simp⟩) (fun _ _ => by simp) (fun _ _ => by simp) (Gd M tx) hgl (fun _ _ _ _ h => h) (by omega) (hg.snoc hf hfr) (fun b s w hb => by rw [hl] at hb; simp at hb) hT hS
    rw [hl] at h
    exact h
  | succ k ih =>
    intro fr seen w hfr hn hg hf hT sv hS
    refine rsearch_step (f := srch (rblkM M) tg k) (N := k) hM hnd (srch_pre _ _ _) (srch_path _ _ _) (srch_found _ _ _) (Gd M tx) hgl (fun b s hb hbs h => srch_gd k b s h (mem_rblkM hb tx) hbs) (by omega) (hg.snoc hf hfr) (fun b s w hb hbs hs hg' hT' sv' hS' => ?_) hT hS
    refine ih (by omega) b s w hbs ?_ hg' (mem_rblkM hb tx) hT' sv' hS'
    obtain ⟨t, rfl⟩ := hs
    cases hw : wOf W fr with
    | none => rw [rblkM_nil (hW fr hw)] at hb; simp at hb
    | some n =>
      have h1 := nW_less hw hfr
      have h2 : nW W (seen ++ fr :: t) ≤ nW W (seen ++ [fr]) := nW_mono (fun x hx => by simp at hx ⊢; rcases hx with hx | hx <;> simp [hx])
      omega
/-- The cycle that the reference tells. -/
theorem rcycle_m {w : World} {v : Value} {M : List (Nm × List Ak)} {W : List (Int × Nm)} (hT : RT w v M) (hM : Mb 200 M) (hnd : (M.map (·.1)).Nodup) (hW : ∀ t, wOf W t = none → forM M t = none) (hl : W.length ≤ 1000) (tx : Int) :
    Calls Tryz.prog 24 #[v, .int .i64 tx] w fun e w' => ∃ ov, e = .returned ov ∧ IO w' w.heap.size ov (sortD (srch (rblkM M) tx W.length tx []).2.2) ∧ Below w.heap.size w w' := by
  refine rcycle_tail (M := M) tx (srch (rblkM M) tx W.length tx []).2.2 (srch (rblkM M) tx W.length tx []).2.1 (Nat.le_trans (srch_path _ _ _ _ _) (by omega)) fun w' hb => ?_
  refine (rsearch_any (tx := tx) (tg := tx) hM hnd hW W.length hl tx [] w' (by simp) (List.length_filter_le _ _) ⟨by simp, by simp⟩ (by unfold allTx; simp) (hT.below hb) (.slice none 0 0) (IO.nil _ _)).mono ?_
  rintro e w'' ⟨wv, sv, rfl, h1, h2, h3, -⟩
  exact ⟨wv, sv, rfl, h1, h2, h3⟩
end Go.Proofs.YtcdlplbccblbaaaGreat
