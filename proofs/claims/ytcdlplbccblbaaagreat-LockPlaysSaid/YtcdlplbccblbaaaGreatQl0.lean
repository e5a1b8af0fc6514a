import Derived.Test.YtcdlplbccblbaaaGreatQj
namespace Go.Proofs.YtcdlplbccblbaaaGreat
open Go.RowKit
set_option linter.unusedVariables false
set_option linter.unusedSimpArgs false

/-- All in falling order. -/
def sortD : List Int → List Int := List.foldl (insI gtI) []
theorem foldI_len (p : Int → Int → Bool) : ∀ (l o : List Int), (l.foldl (insI p) o).length = o.length + l.length
  | [], o => by simp
  | x :: l, o => by rw [List.foldl_cons, foldI_len p l, insI_len, List.length_cons]; omega
theorem sortD_take {l : List Int} {i : Nat} (hi : i < l.length) : sortD (l.take (i + 1)) = insI gtI (sortD (l.take i)) l[i] := by
  unfold sortD
  rw [List.take_succ_eq_append_getElem hi, List.foldl_append]
  rfl
set_option maxRecDepth 100000 in
set_option maxHeartbeats 4000000 in
theorem rcycle_tail {w : World} {v : Value} {M : List (Nm × List Ak)} (tx : Int) (way seen : List Int) (hl : way.length ≤ 100000)
    (hS : ∀ w', Below w.heap.size w w' → Calls Tryz.prog 50 #[v, .int .i64 tx, .int .i64 tx, .slice none 0 0] w' fun e w'' => ∃ wv sv, e = .returned (.tuple #[wv, sv]) ∧ IO w'' w'.heap.size wv way ∧ IO w'' w'.heap.size sv seen ∧ Below w'.heap.size w' w'') :
    Calls Tryz.prog 24 #[v, .int .i64 tx] w fun e w' => ∃ ov, e = .returned ov ∧ IO w' w.heap.size ov (sortD way) ∧ Below w.heap.size w w' := by
  go_enter Tryz.func24, Tryz.ntmps24
  go_wp2_with fail
  refine (hS w (Below.refl _ _)).mono ?_
  rintro e w3 ⟨wv, sv, rfl, hW, -, hBw3⟩
  obtain ⟨wa, wcc, rfl, hwc1, hwc2⟩ := hW.form
  unfold maxLen at hwc2
  have hio := IO.made w3
  have hB30 : Below w3.heap.size w3 (w3.alloc (.cells #[] 3)) := (Below.refl _ _).alloc (Nat.le_refl _) _
  go_wp2_with fail
  go_loopw [7, 8] (fun ov iv' wr => ∃ (i go oc : Nat), i ≤ way.length ∧ iv' = .int .i64 i ∧ ov = .slice (some ⟨go, 0, none⟩) (sortD (way.take i)).length oc ∧ IO wr w3.heap.size ov (sortD (way.take i)) ∧ Below w3.heap.size w3 wr) (fun _ iv' _ => way.length - (intOf iv').toNat)
  case atStart => exact ⟨0, _, _, by omega, rfl, rfl, by simpa [sortD] using hio, hB30⟩
  case round =>
    clear hio hB30
    obtain ⟨i, go, oc, hi, rfl, rfl, hOq, hB⟩ := hrel
    have hol : (sortD (way.take i)).length ≤ 100000 := by unfold sortD; rw [foldI_len, List.length_take]; simp; omega
    by_cases hlt : i < way.length
    · have hstep := sortD_take hlt
      obtain ⟨g, hge, -, -, -, -, hglq, a0q⟩ := (hW.below hB).cell hlt
      subst hge
      obtain ⟨x, hx⟩ : ∃ x, x = way[i] := ⟨_, rfl⟩
      rw [← hx] at a0q hstep
      obtain ⟨ol, holD⟩ : ∃ ol, ol = sortD (way.take i) := ⟨_, rfl⟩
      rw [← holD] at hOq hol hstep ⊢
      have HS1 := Lib.hid hstep
      clear hx holD hstep
      obtain ⟨wy, hwy⟩ : ∃ wy, wy = wr := ⟨_, rfl⟩
      subst hwy
      go_wp2_with fail
      go_loopw [9] (fun kv wr => ∃ kk : Nat, kk ≤ insAt gtI ol x ∧ kv = .int .i64 kk ∧ Below wy.heap.size wy wr) (fun kv _ => ol.length - (intOf kv).toNat)
      case atStart => exact ⟨0, by omega, rfl, Below.refl _ _⟩
      case round =>
        obtain ⟨kk, hkle, rfl, hBr⟩ := hrel
        have hia := insAt_le gtI ol x
        have a0r := below_cell hBr (p := ⟨g, i, none⟩) hglq a0q
        have hglr : g < wr.heap.size := Nat.lt_of_lt_of_le hglq hBr.size
        have hOr := hOq.below hBr
        have hBwr : Below w3.heap.size w3 wr := hB.trans (hBr.mono hB.size)
        clear a0q hOq hB
        by_cases hkl : kk < ol.length
        · obtain ⟨g9, hg9, -, hk1, hk2, -, -, e0⟩ := hOr.cell hkl
          obtain rfl : go = g9 := by simpa using hg9
          unfold maxLen at hk2
          have hdk : decide ((kk : Int) < (ol.length : Int)) = true := by simp; exact hkl
          by_cases hpl : gtI ol[kk] x = true
          · have hst := insAt_step hkle hkl hpl
            have hdl : decide (x < ol[kk]) = true := hpl
            clear hpl
            go_wp2_with fail
            go_quiet (fail)
            go_wp2_with fail
            go_roundw
            case rel => exact ⟨kk + 1, hst, by go_num, below_drewN hBr _⟩
            case measure => simp [intOf]; omega
          · have HKK : Hid (kk = insAt gtI ol x) := Lib.hid (insAt_eq hkle (fun h => by simpa using hpl))
            have hdl : decide (x < ol[kk]) = false := by
              have := hpl
              unfold gtI at this
              simpa using this
            clear hpl
            go_wp2_with fail
            go_quiet (fail)
            obtain ⟨wx, hwx⟩ : ∃ wx, wx = wr.drewN nq := ⟨_, rfl⟩
            have hBx : Below w3.heap.size w3 wx := by rw [hwx]; exact below_drewN hBwr nq
            have hOx : IO wx w3.heap.size (.slice (some ⟨go, 0, none⟩) ol.length oc) ol := by rw [hwx]; exact hOr.below (below_drewN (Below.refl _ _) nq)
            have a0x : wx.cell? ⟨g, i, none⟩ = some (.int .i64 x) := by rw [hwx]; exact a0r
            have hglx : g < wx.heap.size := by rw [hwx]; exact hglr
            rw [← hwx]
            clear hwx a0r hOr hBwr hglr e0 hdl hdk hk1 hk2
            have HS2 : Hid (sortD (way.take (i + 1)) = ol.take kk ++ [x] ++ ol.drop kk) := Lib.hid (by rw [HS1.out]; unfold insI; rw [← HKK.out])
            have hkk : kk ≤ ol.length := by rw [HKK.out]; exact insAt_le _ _ _
            clear HKK
            have hgox : go < wx.heap.size := by
              rcases hOx.2 with ⟨e, _⟩ | ⟨g0, c0, cur, e, _, hh0, _⟩
              · simp at e
              · have e2 : go = g0 := by simpa [Value.ownBlock] using congrArg Value.ownBlock e
                rw [e2]
                exact (Array.getElem?_eq_some_iff.1 hh0).1
            have hO0 : IO wx.drew w3.heap.size (.slice (some ⟨go, 0, none⟩) ol.length oc) ol := hOx.below (Below.refl _ _).drew
            have hg0 : g < wx.drew.heap.size := hglx
            have hgo0 : go < wx.drew.heap.size := hgox
            have hBW0 : Below wx.heap.size wx wx.drew := (Below.refl _ _).drew
            have hBA0 : Below wx.drew.heap.size wx.drew (wx.drew.alloc (.cells #[] 3)) := (Below.refl _ _).alloc (Nat.le_refl _) _
            have hBA1 : Below wx.drew.heap.size wx.drew (wx.drew.alloc (.cells #[.int .i64 x] 3)) := (Below.refl _ _).alloc (Nat.le_refl _) _
            have hBA01 : Below wx.drew.heap.size wx.drew ((wx.drew.alloc (.cells #[] 3)).alloc (.cells #[.int .i64 x] 3)) := hBA0.alloc hBA0.size _
            have hBA10 : Below wx.drew.heap.size wx.drew ((wx.drew.alloc (.cells #[.int .i64 x] 3)).alloc (.cells #[] 3)) := hBA1.alloc hBA1.size _
            have him0 := IO.made wx.drew
            have him01 := him0.below ((Below.refl (wx.drew.alloc (.cells #[] 3)).heap.size _).alloc (Nat.le_refl _) (.cells #[.int .i64 x] 3))
            have hsz1 : (wx.drew.alloc (.cells #[.int .i64 x] 3)).heap.size = wx.heap.size + 1 := World.size_alloc _ _
            have hsz0 : (wx.drew.alloc (.cells #[] 3)).heap.size = wx.heap.size + 1 := World.size_alloc _ _
            have him10 : IO ((wx.drew.alloc (.cells #[.int .i64 x] 3)).alloc (.cells #[] 3)) wx.drew.heap.size (.slice (some ⟨wx.heap.size + 1, 0, none⟩) 0 0) [] := by
              have := (IO.made (wx.drew.alloc (.cells #[.int .i64 x] 3))).base_ hBA1.size
              rw [hsz1] at this
              exact this
            have hio0 := hO0.below hBA0
            have hio01 := hO0.below hBA01
            have hio10 := hO0.below hBA10
            have hgf0 := him0.far hg0
            have hgf10 := him10.far hg0
            have hgof0 := him0.far hgo0
            have hgof10 := him10.far hgo0
            have hdg : ∀ {ob : Option Nat}, some go ≠ ob → ∀ k', some k' = (Value.slice (some ⟨go, 0, none⟩) ol.length oc).ownBlock → some k' ≠ ob := fun hn k' e => by
              have h1 : k' = go := by simpa [Value.ownBlock] using e
              rw [h1]
              exact hn
            have hgl0 : g < (wx.drew.alloc (.cells #[] 3)).heap.size := Nat.lt_of_lt_of_le hg0 hBA0.size
            have hgl01 : g < ((wx.drew.alloc (.cells #[] 3)).alloc (.cells #[.int .i64 x] 3)).heap.size := Nat.lt_of_lt_of_le hg0 hBA01.size
            have hgl10 : g < ((wx.drew.alloc (.cells #[.int .i64 x] 3)).alloc (.cells #[] 3)).heap.size := Nat.lt_of_lt_of_le hg0 hBA10.size
            have hx01 : Blk ((wx.drew.alloc (.cells #[] 3)).alloc (.cells #[.int .i64 x] 3)) (wx.heap.size + 1) 3 #[.int .i64 x] := by
              have := Blk.new (wx.drew.alloc (.cells #[] 3)) 3 #[.int .i64 x]
              rw [hsz0] at this
              exact this
            have hx10 : Blk ((wx.drew.alloc (.cells #[.int .i64 x] 3)).alloc (.cells #[] 3)) wx.heap.size 3 #[.int .i64 x] := (Blk.new _ _ _).alloc _
            clear hsz0 hsz1
            have hxn01 : some (wx.heap.size + 1) ≠ (Value.slice (some ⟨wx.drew.heap.size, 0, none⟩) 0 0).ownBlock := by simp [Value.ownBlock]
            have hxn10 : some wx.heap.size ≠ (Value.slice (some ⟨wx.heap.size + 1, 0, none⟩) 0 0).ownBlock := by simp [Value.ownBlock]
            have HL0 : Hid (kk = (ol.take kk).length) := Lib.hid (by rw [List.length_take]; omega)
            have HL1 : Hid (([] : List Int).length + (ol.take kk).length ≤ 1000000000) := Lib.hid (by rw [List.length_take]; simp; omega)
            have HL2 : Hid ((ol.take kk).length + [x].length ≤ 1000000000) := Lib.hid (by rw [List.length_take]; simp; omega)
            have HL3 : Hid ((ol.take kk ++ [x]).length + (ol.drop kk).length ≤ 1000000000) := Lib.hid (by rw [List.length_append, List.length_take, List.length_drop]; simp; omega)
            obtain ⟨hoc1, hoc2⟩ : ol.length ≤ oc ∧ oc ≤ maxLen := by
              obtain ⟨a', c', e, h1, h2⟩ := hOx.form
              have e2 : oc = c' := by have := e; simp at this; exact this.2
              rw [e2]; exact ⟨h1, h2⟩
            unfold maxLen at hoc2
            have hi1 : (0 : Int) ≤ (kk : Int) := by omega
            have hi2 : (kk : Int) ≤ (oc : Int) := by omega
            have hi4 : (kk : Int) ≤ (ol.length : Int) := by omega
            by_cases hcz : oc = kk
            · have hsrE : ∀ {w'}, SrcAt w' (some ⟨go, 0, none⟩) ((ol.drop kk).map iv) := fun {w'} j u hj => by
                rw [List.drop_of_length_le (by omega)] at hj
                simp at hj
              have hczt : (oc = kk) = True := eq_true hcz
              clear hcz
              go_wp2_with fail
              go_region_held3 (fun w' => w'.cell? ⟨g, i, none⟩ = some (.int .i64 x))
                (first
                  | go_keep
                  | (rw [World.cell?_of_block (hg5.block g hgl0 hgf0)]; assumption)
                  | (rw [World.cell?_of_block (hg5.block g hgl01 hgf0)]; assumption)
                  | (rw [World.cell?_of_block (hg5.block g hgl10 hgf10)]; assumption)
                  | (rw [World.cell?_of_block (hg6.block g hgl2 hgf5)]; assumption)
                  | (rw [World.cell?_of_block (hg7.block g hgl6 hgf6)]; assumption))
                (first
                  | (refine step_append_io rfl _ _ rfl wx.drew.heap.size _ [] (ol.take kk) rfl him0 (some ⟨go, 0, none⟩) kk _ rfl HL0.out (fun h => by simp at h) (hio0.src.takeI kk) HL1.out hBA0.size ?_; intro v5 w5 ho5 hg5; have hgl5 := Nat.lt_of_lt_of_le hgl0 hg5.size; have hB5 := him0.grownBelow hBA0 hg5 hBA0.size; have hio5 := hio0.grown hg5 (hdg hgof0); have hgl2 := Nat.lt_of_lt_of_le hgl5 (((Below.refl w5.heap.size w5).alloc (Nat.le_refl _) (.cells #[.int .i64 x] 3)).size); have ho2 := ho5.below ((Below.refl w5.heap.size w5).alloc (Nat.le_refl _) (.cells #[.int .i64 x] 3)); have hio2 := hio5.below ((Below.refl w5.heap.size w5).alloc (Nat.le_refl _) (.cells #[.int .i64 x] 3)); have hB2 := hB5.alloc hB5.size (.cells #[.int .i64 x] 3); have hsx := src_int w5 x; have hgf5 := ho5.far hg0; have hgof5 := ho5.far hgo0)
                  | (refine step_append_io rfl _ _ rfl wx.drew.heap.size _ [] (ol.take kk) rfl him01 (some ⟨go, 0, none⟩) kk _ rfl HL0.out (fun h => by simp at h) (hio01.src.takeI kk) HL1.out hBA01.size ?_; intro v5 w5 ho5 hg5; have hgl5 := Nat.lt_of_lt_of_le hgl01 hg5.size; have hB5 := him01.grownBelow hBA01 hg5 hBA01.size; have hio5 := hio01.grown hg5 (hdg hgof0); have hgl2 := hgl5; have ho2 := ho5; have hio2 := hio5; have hB2 := hB5; have hsx := src_blk (hx01.of_block (hg5.block _ hx01.lt hxn01)); have hgf5 := ho5.far hg0; have hgof5 := ho5.far hgo0)
                  | (refine step_append_io rfl _ _ rfl wx.drew.heap.size _ [] (ol.take kk) rfl him10 (some ⟨go, 0, none⟩) kk _ rfl HL0.out (fun h => by simp at h) (hio10.src.takeI kk) HL1.out hBA10.size ?_; intro v5 w5 ho5 hg5; have hgl5 := Nat.lt_of_lt_of_le hgl10 hg5.size; have hB5 := him10.grownBelow hBA10 hg5 hBA10.size; have hio5 := hio10.grown hg5 (hdg hgof10); have hgl2 := hgl5; have ho2 := ho5; have hio2 := hio5; have hB2 := hB5; have hsx := src_blk (hx10.of_block (hg5.block _ hx10.lt hxn10)); have hgf5 := ho5.far hg0; have hgof5 := ho5.far hgo0)
                  | (refine step_append_io rfl _ _ rfl wx.drew.heap.size _ (ol.take kk) [x] rfl ho2 (some ⟨_, 0, none⟩) 1 1 rfl rfl (fun h => by simp at h) hsx HL2.out hB2.size ?_; intro v6 w6 ho6 hg6; have hgl6 := Nat.lt_of_lt_of_le hgl2 hg6.size; have hB6 := ho2.grownBelow hB2 hg6 hB2.size; have hio6 := hio2.grown hg6 (hdg hgof5); have hgf6 := ho6.far hg0)
                  | (refine step_append_io rfl _ _ rfl wx.drew.heap.size _ (ol.take kk ++ [x]) (ol.drop kk) rfl ho6 (some ⟨go, 0, none⟩) (ol.length - kk) _ rfl List.length_drop.symm (fun h => by simp at h) hsrE HL3.out hB6.size ?_; intro v7 w7 ho7 hg7; have hB7 := ho6.grownBelow hB6 hg7 hB6.size))
              all_goals
                have hlen7 : 0 < (ol.take kk ++ [x] ++ ol.drop kk).length := by simp only [List.length_append, List.length_cons]; omega
                obtain ⟨gn, cn, rfl, -, -⟩ := ho7.some hlen7
                have hll7 : (ol.take kk ++ [x] ++ ol.drop kk).length = (sortD (way.take (i + 1))).length := by rw [HS2.out]
                have hB7w : Below w3.heap.size w3 w7 := hBx.trans ((hBW0.trans (hB7.mono hBW0.size)).mono hBx.size)
                have hs30 : w3.heap.size ≤ wx.drew.heap.size := Nat.le_trans hBx.size hBW0.size
                have HI7 := Lib.hid (ho7.base_ hs30)
                rw [hll7] at HI7 ⊢
                clear hlen7 hll7
                go_wp2_with fail
                go_roundw
                case rel => exact ⟨i + 1, gn, cn, by omega, by go_num, rfl, by rw [HS2.out] at HI7 ⊢; exact HI7.out, hB7w⟩
                case measure => simp [intOf]; omega
            · have hczt : (oc = kk) = False := eq_false hcz
              clear hcz
              go_wp2_with fail
              go_region_held3 (fun w' => w'.cell? ⟨g, i, none⟩ = some (.int .i64 x))
                (first
                  | go_keep
                  | (rw [World.cell?_of_block (hg5.block g hgl0 hgf0)]; assumption)
                  | (rw [World.cell?_of_block (hg5.block g hgl01 hgf0)]; assumption)
                  | (rw [World.cell?_of_block (hg5.block g hgl10 hgf10)]; assumption)
                  | (rw [World.cell?_of_block (hg6.block g hgl2 hgf5)]; assumption)
                  | (rw [World.cell?_of_block (hg7.block g hgl6 hgf6)]; assumption))
                (first
                  | (refine step_append_io rfl _ _ rfl wx.drew.heap.size _ [] (ol.take kk) rfl him0 (some ⟨go, 0, none⟩) kk _ rfl HL0.out (fun h => by simp at h) (hio0.src.takeI kk) HL1.out hBA0.size ?_; intro v5 w5 ho5 hg5; have hgl5 := Nat.lt_of_lt_of_le hgl0 hg5.size; have hB5 := him0.grownBelow hBA0 hg5 hBA0.size; have hio5 := hio0.grown hg5 (hdg hgof0); have hgl2 := Nat.lt_of_lt_of_le hgl5 (((Below.refl w5.heap.size w5).alloc (Nat.le_refl _) (.cells #[.int .i64 x] 3)).size); have ho2 := ho5.below ((Below.refl w5.heap.size w5).alloc (Nat.le_refl _) (.cells #[.int .i64 x] 3)); have hio2 := hio5.below ((Below.refl w5.heap.size w5).alloc (Nat.le_refl _) (.cells #[.int .i64 x] 3)); have hB2 := hB5.alloc hB5.size (.cells #[.int .i64 x] 3); have hsx := src_int w5 x; have hgf5 := ho5.far hg0; have hgof5 := ho5.far hgo0)
                  | (refine step_append_io rfl _ _ rfl wx.drew.heap.size _ [] (ol.take kk) rfl him01 (some ⟨go, 0, none⟩) kk _ rfl HL0.out (fun h => by simp at h) (hio01.src.takeI kk) HL1.out hBA01.size ?_; intro v5 w5 ho5 hg5; have hgl5 := Nat.lt_of_lt_of_le hgl01 hg5.size; have hB5 := him01.grownBelow hBA01 hg5 hBA01.size; have hio5 := hio01.grown hg5 (hdg hgof0); have hgl2 := hgl5; have ho2 := ho5; have hio2 := hio5; have hB2 := hB5; have hsx := src_blk (hx01.of_block (hg5.block _ hx01.lt hxn01)); have hgf5 := ho5.far hg0; have hgof5 := ho5.far hgo0)
                  | (refine step_append_io rfl _ _ rfl wx.drew.heap.size _ [] (ol.take kk) rfl him10 (some ⟨go, 0, none⟩) kk _ rfl HL0.out (fun h => by simp at h) (hio10.src.takeI kk) HL1.out hBA10.size ?_; intro v5 w5 ho5 hg5; have hgl5 := Nat.lt_of_lt_of_le hgl10 hg5.size; have hB5 := him10.grownBelow hBA10 hg5 hBA10.size; have hio5 := hio10.grown hg5 (hdg hgof10); have hgl2 := hgl5; have ho2 := ho5; have hio2 := hio5; have hB2 := hB5; have hsx := src_blk (hx10.of_block (hg5.block _ hx10.lt hxn10)); have hgf5 := ho5.far hg0; have hgof5 := ho5.far hgo0)
                  | (refine step_append_io rfl _ _ rfl wx.drew.heap.size _ (ol.take kk) [x] rfl ho2 (some ⟨_, 0, none⟩) 1 1 rfl rfl (fun h => by simp at h) hsx HL2.out hB2.size ?_; intro v6 w6 ho6 hg6; have hgl6 := Nat.lt_of_lt_of_le hgl2 hg6.size; have hB6 := ho2.grownBelow hB2 hg6 hB2.size; have hio6 := hio2.grown hg6 (hdg hgof5); have hgf6 := ho6.far hg0)
                  | (refine step_append_io rfl _ _ rfl wx.drew.heap.size _ (ol.take kk ++ [x]) (ol.drop kk) rfl ho6 (some ⟨go, kk, none⟩) (ol.length - kk) _ rfl List.length_drop.symm (fun h => by simp at h) (hio6.src.dropI kk) HL3.out hB6.size ?_; intro v7 w7 ho7 hg7; have hB7 := ho6.grownBelow hB6 hg7 hB6.size))
              all_goals
                have hlen7 : 0 < (ol.take kk ++ [x] ++ ol.drop kk).length := by simp only [List.length_append, List.length_cons]; omega
                obtain ⟨gn, cn, rfl, -, -⟩ := ho7.some hlen7
                have hll7 : (ol.take kk ++ [x] ++ ol.drop kk).length = (sortD (way.take (i + 1))).length := by rw [HS2.out]
                have hB7w : Below w3.heap.size w3 w7 := hBx.trans ((hBW0.trans (hB7.mono hBW0.size)).mono hBx.size)
                have hs30 : w3.heap.size ≤ wx.drew.heap.size := Nat.le_trans hBx.size hBW0.size
                have HI7 := Lib.hid (ho7.base_ hs30)
                rw [hll7] at HI7 ⊢
                clear hlen7 hll7
                go_wp2_with fail
                go_roundw
                case rel => exact ⟨i + 1, gn, cn, by omega, by go_num, rfl, by rw [HS2.out] at HI7 ⊢; exact HI7.out, hB7w⟩
                case measure => simp [intOf]; omega
        · have HKK : Hid (kk = insAt gtI ol x) := Lib.hid (insAt_eq hkle (fun h => absurd h hkl))
          have hdk : decide ((kk : Int) < (ol.length : Int)) = false := by simp; omega
          go_wp2_with fail
          go_quiet (fail)
          clear hdk
          obtain ⟨wx, hwx⟩ : ∃ wx, wx = wr.drewN nq := ⟨_, rfl⟩
          have hBx : Below w3.heap.size w3 wx := by rw [hwx]; exact below_drewN hBwr nq
          have hOx : IO wx w3.heap.size (.slice (some ⟨go, 0, none⟩) ol.length oc) ol := by rw [hwx]; exact hOr.below (below_drewN (Below.refl _ _) nq)
          have a0x : wx.cell? ⟨g, i, none⟩ = some (.int .i64 x) := by rw [hwx]; exact a0r
          have hglx : g < wx.heap.size := by rw [hwx]; exact hglr
          rw [← hwx]
          clear hwx a0r hOr hBwr hglr
          have HS2 : Hid (sortD (way.take (i + 1)) = ol.take kk ++ [x] ++ ol.drop kk) := Lib.hid (by rw [HS1.out]; unfold insI; rw [← HKK.out])
          have hkk : kk ≤ ol.length := by rw [HKK.out]; exact insAt_le _ _ _
          clear HKK
          have hgox : go < wx.heap.size := by
            rcases hOx.2 with ⟨e, _⟩ | ⟨g0, c0, cur, e, _, hh0, _⟩
            · simp at e
            · have e2 : go = g0 := by simpa [Value.ownBlock] using congrArg Value.ownBlock e
              rw [e2]
              exact (Array.getElem?_eq_some_iff.1 hh0).1
          have hO0 : IO wx.drew w3.heap.size (.slice (some ⟨go, 0, none⟩) ol.length oc) ol := hOx.below (Below.refl _ _).drew
          have hg0 : g < wx.drew.heap.size := hglx
          have hgo0 : go < wx.drew.heap.size := hgox
          have hBW0 : Below wx.heap.size wx wx.drew := (Below.refl _ _).drew
          have hBA0 : Below wx.drew.heap.size wx.drew (wx.drew.alloc (.cells #[] 3)) := (Below.refl _ _).alloc (Nat.le_refl _) _
          have hBA1 : Below wx.drew.heap.size wx.drew (wx.drew.alloc (.cells #[.int .i64 x] 3)) := (Below.refl _ _).alloc (Nat.le_refl _) _
          have hBA01 : Below wx.drew.heap.size wx.drew ((wx.drew.alloc (.cells #[] 3)).alloc (.cells #[.int .i64 x] 3)) := hBA0.alloc hBA0.size _
          have hBA10 : Below wx.drew.heap.size wx.drew ((wx.drew.alloc (.cells #[.int .i64 x] 3)).alloc (.cells #[] 3)) := hBA1.alloc hBA1.size _
          have him0 := IO.made wx.drew
          have him01 := him0.below ((Below.refl (wx.drew.alloc (.cells #[] 3)).heap.size _).alloc (Nat.le_refl _) (.cells #[.int .i64 x] 3))
          have hsz1 : (wx.drew.alloc (.cells #[.int .i64 x] 3)).heap.size = wx.heap.size + 1 := World.size_alloc _ _
          have hsz0 : (wx.drew.alloc (.cells #[] 3)).heap.size = wx.heap.size + 1 := World.size_alloc _ _
          have him10 : IO ((wx.drew.alloc (.cells #[.int .i64 x] 3)).alloc (.cells #[] 3)) wx.drew.heap.size (.slice (some ⟨wx.heap.size + 1, 0, none⟩) 0 0) [] := by
            have := (IO.made (wx.drew.alloc (.cells #[.int .i64 x] 3))).base_ hBA1.size
            rw [hsz1] at this
            exact this
          have hio0 := hO0.below hBA0
          have hio01 := hO0.below hBA01
          have hio10 := hO0.below hBA10
          have hgf0 := him0.far hg0
          have hgf10 := him10.far hg0
          have hgof0 := him0.far hgo0
          have hgof10 := him10.far hgo0
          have hdg : ∀ {ob : Option Nat}, some go ≠ ob → ∀ k', some k' = (Value.slice (some ⟨go, 0, none⟩) ol.length oc).ownBlock → some k' ≠ ob := fun hn k' e => by
            have h1 : k' = go := by simpa [Value.ownBlock] using e
            rw [h1]
            exact hn
          have hgl0 : g < (wx.drew.alloc (.cells #[] 3)).heap.size := Nat.lt_of_lt_of_le hg0 hBA0.size
          have hgl01 : g < ((wx.drew.alloc (.cells #[] 3)).alloc (.cells #[.int .i64 x] 3)).heap.size := Nat.lt_of_lt_of_le hg0 hBA01.size
          have hgl10 : g < ((wx.drew.alloc (.cells #[.int .i64 x] 3)).alloc (.cells #[] 3)).heap.size := Nat.lt_of_lt_of_le hg0 hBA10.size
          have hx01 : Blk ((wx.drew.alloc (.cells #[] 3)).alloc (.cells #[.int .i64 x] 3)) (wx.heap.size + 1) 3 #[.int .i64 x] := by
            have := Blk.new (wx.drew.alloc (.cells #[] 3)) 3 #[.int .i64 x]
            rw [hsz0] at this
            exact this
          have hx10 : Blk ((wx.drew.alloc (.cells #[.int .i64 x] 3)).alloc (.cells #[] 3)) wx.heap.size 3 #[.int .i64 x] := (Blk.new _ _ _).alloc _
          clear hsz0 hsz1
          have hxn01 : some (wx.heap.size + 1) ≠ (Value.slice (some ⟨wx.drew.heap.size, 0, none⟩) 0 0).ownBlock := by simp [Value.ownBlock]
          have hxn10 : some wx.heap.size ≠ (Value.slice (some ⟨wx.heap.size + 1, 0, none⟩) 0 0).ownBlock := by simp [Value.ownBlock]
          have HL0 : Hid (kk = (ol.take kk).length) := Lib.hid (by rw [List.length_take]; omega)
          have HL1 : Hid (([] : List Int).length + (ol.take kk).length ≤ 1000000000) := Lib.hid (by rw [List.length_take]; simp; omega)
          have HL2 : Hid ((ol.take kk).length + [x].length ≤ 1000000000) := Lib.hid (by rw [List.length_take]; simp; omega)
          have HL3 : Hid ((ol.take kk ++ [x]).length + (ol.drop kk).length ≤ 1000000000) := Lib.hid (by rw [List.length_append, List.length_take, List.length_drop]; simp; omega)
          obtain ⟨hoc1, hoc2⟩ : ol.length ≤ oc ∧ oc ≤ maxLen := by
            obtain ⟨a', c', e, h1, h2⟩ := hOx.form
            have e2 : oc = c' := by have := e; simp at this; exact this.2
            rw [e2]; exact ⟨h1, h2⟩
          unfold maxLen at hoc2
          have hi1 : (0 : Int) ≤ (kk : Int) := by omega
          have hi2 : (kk : Int) ≤ (oc : Int) := by omega
          have hi4 : (kk : Int) ≤ (ol.length : Int) := by omega
          by_cases hcz : oc = kk
          · have hsrE : ∀ {w'}, SrcAt w' (some ⟨go, 0, none⟩) ((ol.drop kk).map iv) := fun {w'} j u hj => by
              rw [List.drop_of_length_le (by omega)] at hj
              simp at hj
            have hczt : (oc = kk) = True := eq_true hcz
            clear hcz
            go_wp2_with fail
            go_region_held3 (fun w' => w'.cell? ⟨g, i, none⟩ = some (.int .i64 x))
              (first
                | go_keep
                | (rw [World.cell?_of_block (hg5.block g hgl0 hgf0)]; assumption)
                | (rw [World.cell?_of_block (hg5.block g hgl01 hgf0)]; assumption)
                | (rw [World.cell?_of_block (hg5.block g hgl10 hgf10)]; assumption)
                | (rw [World.cell?_of_block (hg6.block g hgl2 hgf5)]; assumption)
                | (rw [World.cell?_of_block (hg7.block g hgl6 hgf6)]; assumption))
              (first
                | (refine step_append_io rfl _ _ rfl wx.drew.heap.size _ [] (ol.take kk) rfl him0 (some ⟨go, 0, none⟩) kk _ rfl HL0.out (fun h => by simp at h) (hio0.src.takeI kk) HL1.out hBA0.size ?_; intro v5 w5 ho5 hg5; have hgl5 := Nat.lt_of_lt_of_le hgl0 hg5.size; have hB5 := him0.grownBelow hBA0 hg5 hBA0.size; have hio5 := hio0.grown hg5 (hdg hgof0); have hgl2 := Nat.lt_of_lt_of_le hgl5 (((Below.refl w5.heap.size w5).alloc (Nat.le_refl _) (.cells #[.int .i64 x] 3)).size); have ho2 := ho5.below ((Below.refl w5.heap.size w5).alloc (Nat.le_refl _) (.cells #[.int .i64 x] 3)); have hio2 := hio5.below ((Below.refl w5.heap.size w5).alloc (Nat.le_refl _) (.cells #[.int .i64 x] 3)); have hB2 := hB5.alloc hB5.size (.cells #[.int .i64 x] 3); have hsx := src_int w5 x; have hgf5 := ho5.far hg0; have hgof5 := ho5.far hgo0)
                | (refine step_append_io rfl _ _ rfl wx.drew.heap.size _ [] (ol.take kk) rfl him01 (some ⟨go, 0, none⟩) kk _ rfl HL0.out (fun h => by simp at h) (hio01.src.takeI kk) HL1.out hBA01.size ?_; intro v5 w5 ho5 hg5; have hgl5 := Nat.lt_of_lt_of_le hgl01 hg5.size; have hB5 := him01.grownBelow hBA01 hg5 hBA01.size; have hio5 := hio01.grown hg5 (hdg hgof0); have hgl2 := hgl5; have ho2 := ho5; have hio2 := hio5; have hB2 := hB5; have hsx := src_blk (hx01.of_block (hg5.block _ hx01.lt hxn01)); have hgf5 := ho5.far hg0; have hgof5 := ho5.far hgo0)
                | (refine step_append_io rfl _ _ rfl wx.drew.heap.size _ [] (ol.take kk) rfl him10 (some ⟨go, 0, none⟩) kk _ rfl HL0.out (fun h => by simp at h) (hio10.src.takeI kk) HL1.out hBA10.size ?_; intro v5 w5 ho5 hg5; have hgl5 := Nat.lt_of_lt_of_le hgl10 hg5.size; have hB5 := him10.grownBelow hBA10 hg5 hBA10.size; have hio5 := hio10.grown hg5 (hdg hgof10); have hgl2 := hgl5; have ho2 := ho5; have hio2 := hio5; have hB2 := hB5; have hsx := src_blk (hx10.of_block (hg5.block _ hx10.lt hxn10)); have hgf5 := ho5.far hg0; have hgof5 := ho5.far hgo0)
                | (refine step_append_io rfl _ _ rfl wx.drew.heap.size _ (ol.take kk) [x] rfl ho2 (some ⟨_, 0, none⟩) 1 1 rfl rfl (fun h => by simp at h) hsx HL2.out hB2.size ?_; intro v6 w6 ho6 hg6; have hgl6 := Nat.lt_of_lt_of_le hgl2 hg6.size; have hB6 := ho2.grownBelow hB2 hg6 hB2.size; have hio6 := hio2.grown hg6 (hdg hgof5); have hgf6 := ho6.far hg0)
                | (refine step_append_io rfl _ _ rfl wx.drew.heap.size _ (ol.take kk ++ [x]) (ol.drop kk) rfl ho6 (some ⟨go, 0, none⟩) (ol.length - kk) _ rfl List.length_drop.symm (fun h => by simp at h) hsrE HL3.out hB6.size ?_; intro v7 w7 ho7 hg7; have hB7 := ho6.grownBelow hB6 hg7 hB6.size))
            all_goals
              have hlen7 : 0 < (ol.take kk ++ [x] ++ ol.drop kk).length := by simp only [List.length_append, List.length_cons]; omega
              obtain ⟨gn, cn, rfl, -, -⟩ := ho7.some hlen7
              have hll7 : (ol.take kk ++ [x] ++ ol.drop kk).length = (sortD (way.take (i + 1))).length := by rw [HS2.out]
              have hB7w : Below w3.heap.size w3 w7 := hBx.trans ((hBW0.trans (hB7.mono hBW0.size)).mono hBx.size)
              have hs30 : w3.heap.size ≤ wx.drew.heap.size := Nat.le_trans hBx.size hBW0.size
              have HI7 := Lib.hid (ho7.base_ hs30)
              rw [hll7] at HI7 ⊢
              clear hlen7 hll7
              go_wp2_with fail
              go_roundw
              case rel => exact ⟨i + 1, gn, cn, by omega, by go_num, rfl, by rw [HS2.out] at HI7 ⊢; exact HI7.out, hB7w⟩
              case measure => simp [intOf]; omega
          · have hczt : (oc = kk) = False := eq_false hcz
            clear hcz
            go_wp2_with fail
            go_region_held3 (fun w' => w'.cell? ⟨g, i, none⟩ = some (.int .i64 x))
              (first
                | go_keep
                | (rw [World.cell?_of_block (hg5.block g hgl0 hgf0)]; assumption)
                | (rw [World.cell?_of_block (hg5.block g hgl01 hgf0)]; assumption)
                | (rw [World.cell?_of_block (hg5.block g hgl10 hgf10)]; assumption)
                | (rw [World.cell?_of_block (hg6.block g hgl2 hgf5)]; assumption)
                | (rw [World.cell?_of_block (hg7.block g hgl6 hgf6)]; assumption))
              (first
                | (refine step_append_io rfl _ _ rfl wx.drew.heap.size _ [] (ol.take kk) rfl him0 (some ⟨go, 0, none⟩) kk _ rfl HL0.out (fun h => by simp at h) (hio0.src.takeI kk) HL1.out hBA0.size ?_; intro v5 w5 ho5 hg5; have hgl5 := Nat.lt_of_lt_of_le hgl0 hg5.size; have hB5 := him0.grownBelow hBA0 hg5 hBA0.size; have hio5 := hio0.grown hg5 (hdg hgof0); have hgl2 := Nat.lt_of_lt_of_le hgl5 (((Below.refl w5.heap.size w5).alloc (Nat.le_refl _) (.cells #[.int .i64 x] 3)).size); have ho2 := ho5.below ((Below.refl w5.heap.size w5).alloc (Nat.le_refl _) (.cells #[.int .i64 x] 3)); have hio2 := hio5.below ((Below.refl w5.heap.size w5).alloc (Nat.le_refl _) (.cells #[.int .i64 x] 3)); have hB2 := hB5.alloc hB5.size (.cells #[.int .i64 x] 3); have hsx := src_int w5 x; have hgf5 := ho5.far hg0; have hgof5 := ho5.far hgo0)
                | (refine step_append_io rfl _ _ rfl wx.drew.heap.size _ [] (ol.take kk) rfl him01 (some ⟨go, 0, none⟩) kk _ rfl HL0.out (fun h => by simp at h) (hio01.src.takeI kk) HL1.out hBA01.size ?_; intro v5 w5 ho5 hg5; have hgl5 := Nat.lt_of_lt_of_le hgl01 hg5.size; have hB5 := him01.grownBelow hBA01 hg5 hBA01.size; have hio5 := hio01.grown hg5 (hdg hgof0); have hgl2 := hgl5; have ho2 := ho5; have hio2 := hio5; have hB2 := hB5; have hsx := src_blk (hx01.of_block (hg5.block _ hx01.lt hxn01)); have hgf5 := ho5.far hg0; have hgof5 := ho5.far hgo0)
                | (refine step_append_io rfl _ _ rfl wx.drew.heap.size _ [] (ol.take kk) rfl him10 (some ⟨go, 0, none⟩) kk _ rfl HL0.out (fun h => by simp at h) (hio10.src.takeI kk) HL1.out hBA10.size ?_; intro v5 w5 ho5 hg5; have hgl5 := Nat.lt_of_lt_of_le hgl10 hg5.size; have hB5 := him10.grownBelow hBA10 hg5 hBA10.size; have hio5 := hio10.grown hg5 (hdg hgof10); have hgl2 := hgl5; have ho2 := ho5; have hio2 := hio5; have hB2 := hB5; have hsx := src_blk (hx10.of_block (hg5.block _ hx10.lt hxn10)); have hgf5 := ho5.far hg0; have hgof5 := ho5.far hgo0)
                | (refine step_append_io rfl _ _ rfl wx.drew.heap.size _ (ol.take kk) [x] rfl ho2 (some ⟨_, 0, none⟩) 1 1 rfl rfl (fun h => by simp at h) hsx HL2.out hB2.size ?_; intro v6 w6 ho6 hg6; have hgl6 := Nat.lt_of_lt_of_le hgl2 hg6.size; have hB6 := ho2.grownBelow hB2 hg6 hB2.size; have hio6 := hio2.grown hg6 (hdg hgof5); have hgf6 := ho6.far hg0)
                | (refine step_append_io rfl _ _ rfl wx.drew.heap.size _ (ol.take kk ++ [x]) (ol.drop kk) rfl ho6 (some ⟨go, kk, none⟩) (ol.length - kk) _ rfl List.length_drop.symm (fun h => by simp at h) (hio6.src.dropI kk) HL3.out hB6.size ?_; intro v7 w7 ho7 hg7; have hB7 := ho6.grownBelow hB6 hg7 hB6.size))
            all_goals
              have hlen7 : 0 < (ol.take kk ++ [x] ++ ol.drop kk).length := by simp only [List.length_append, List.length_cons]; omega
              obtain ⟨gn, cn, rfl, -, -⟩ := ho7.some hlen7
              have hll7 : (ol.take kk ++ [x] ++ ol.drop kk).length = (sortD (way.take (i + 1))).length := by rw [HS2.out]
              have hB7w : Below w3.heap.size w3 w7 := hBx.trans ((hBW0.trans (hB7.mono hBW0.size)).mono hBx.size)
              have hs30 : w3.heap.size ≤ wx.drew.heap.size := Nat.le_trans hBx.size hBW0.size
              have HI7 := Lib.hid (ho7.base_ hs30)
              rw [hll7] at HI7 ⊢
              clear hlen7 hll7
              go_wp2_with fail
              go_roundw
              case rel => exact ⟨i + 1, gn, cn, by omega, by go_num, rfl, by rw [HS2.out] at HI7 ⊢; exact HI7.out, hB7w⟩
              case measure => simp [intOf]; omega
    · obtain rfl : i = way.length := by omega
      have hBw : Below w.heap.size w wr := hBw3.trans (hB.mono hBw3.size)
      have HF : Hid (sortD (way.take way.length) = sortD way) := Lib.hid (by rw [List.take_length])
      rw [HF.out] at hOq ⊢
      go_wp2_with fail
      go_ret
      exact ⟨_, rfl, hOq.base_ hBw3.size, hBw⟩
end Go.Proofs.YtcdlplbccblbaaaGreat
