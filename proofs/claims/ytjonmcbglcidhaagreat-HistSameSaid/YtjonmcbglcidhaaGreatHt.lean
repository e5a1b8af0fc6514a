import Derived.Test.YtjonmcbglcidhaaGreatHr
import Derived.Test.YtjonmcbglcidhaaGreatHu
import Derived.Test.YtjonmcbglcidhaaGreatHi
namespace Go.Proofs.YtjonmcbglcidhaaGreat
open Go.RowKit
set_option linter.unusedVariables false
attribute [local go_sem ↓] Go.wp_at_zero Go.wp_at_succ

/-- Which row stands at place j of the turned rows. -/
def turnK (n : Nat) (t : Int) (j : Nat) : Nat := if 0 < t then (j + (t.tmod n).toNat) % n else j
theorem VAt.keptAt {w w' : World} {A : Option Addr} {l : List V} (h : VAt w A l) (hs : w.heap.size ≤ w'.heap.size) (hb : l ≠ [] → ∀ ad, A = some ad → w'.heap[ad.block]? = w.heap[ad.block]?) : VAt w' A l := fun k hk => by
  obtain ⟨ad, h1⟩ := h k hk
  have hlt := hb (fun e => by rw [e] at hk; simp at hk) ad h1.at_
  have hc : ∀ p : Addr, p.block = ad.block → w'.cell? p = w.cell? p := fun p hp => World.cell?_of_block (by rw [hp]; exact hlt)
  exact ⟨ad, h1.at_, Nat.lt_of_lt_of_le h1.lt hs, (hc _ (block_of_add _ _)).trans h1.c0, (hc ⟨(ad.add (k * 3)).block, (ad.add (k * 3)).off + 1, none⟩ (block_of_add ad (k * 3))).trans h1.c1, (hc ⟨(ad.add (k * 3)).block, (ad.add (k * 3)).off + 2, none⟩ (block_of_add ad (k * 3))).trans h1.c2⟩
/-- The rows that were laid so far. -/
structure Laid (B : Nat) (vb : Value) (w : World) (R : List RH) (t : Int) (j : Nat) (Rb : List RH) : Prop where
  len : Rb.length = j
  at_ : ∀ r ∈ Rb, VAt w r.A r.l ∧ r.l.length ≤ 9223372036854775807
  far : ∀ r ∈ Rb, r.l ≠ [] → ∀ ad, r.A = some ad → B ≤ ad.block ∧ some ad.block ≠ vb.ownBlock
  eq : ∀ k (h : k < Rb.length), ∃ h2 : turnK R.length t k < R.length, (Rb[k]'h).l = (R[turnK R.length t k]'h2).l
theorem VAt.blk {w : World} {A : Option Addr} {l : List V} (h : VAt w A l) (hl : l ≠ []) {ad : Addr} (ha : A = some ad) : ad.block < w.heap.size := by
  cases l with
  | nil => exact absurd rfl hl
  | cons a l =>
    obtain ⟨p, hp⟩ := h 0 (by simp)
    obtain rfl : ad = p := by rw [ha] at hp; simpa using hp.at_
    exact hp.lt
/-- One more. -/
theorem Laid.more {B H : Nat} {vb nv : Value} {w w' : World} {R Rb : List RH} {t : Int} {j : Nat} {r : RH} {A1 : Option Addr} {c1 k : Nat} (h : Laid B vb w R t j Rb) (hk : k = turnK R.length t j) (hkR : k < R.length) (hr : r = R[k])
    (hs : w.heap.size ≤ w'.heap.size) (hb : ∀ q, q < w.heap.size → B ≤ q → some q ≠ vb.ownBlock → w'.heap[q]? = w.heap[q]?) (hB : B ≤ w.heap.size)
    (hv : VAt w' A1 r.l) (hrl : r.l.length ≤ 9223372036854775807) (hA1 : r.l ≠ [] → ∀ ad, A1 = some ad → w.heap.size ≤ ad.block ∧ ad.block < H)
    (hvo : ∀ q, vb.ownBlock = some q → q < w.heap.size) (hnv : ∀ q, some q = nv.ownBlock → some q = vb.ownBlock ∨ q = H) (hH : w.heap.size ≤ H) :
    Laid B nv w' R t (j + 1) (Rb ++ [⟨A1, c1, r.l⟩]) := by
  refine ⟨by simp [h.len], fun x hx => ?_, fun x hx hl ad ha => ?_, fun q hq => ?_⟩
  · rcases List.mem_append.1 hx with hx | hx
    · obtain ⟨h1, h2⟩ := h.at_ x hx
      exact ⟨h1.keptAt hs (fun hl ad ha => hb _ (h1.blk hl ha) (h.far x hx hl ad ha).1 (h.far x hx hl ad ha).2), h2⟩
    · obtain rfl := List.mem_singleton.1 hx
      exact ⟨hv, hrl⟩
  · rcases List.mem_append.1 hx with hx | hx
    · refine ⟨(h.far x hx hl ad ha).1, fun e => ?_⟩
      rcases hnv _ e with e | e
      · exact (h.far x hx hl ad ha).2 e
      · have := (h.at_ x hx).1.blk hl ha
        omega
    · obtain rfl := List.mem_singleton.1 hx
      obtain ⟨h1, h2⟩ := hA1 hl ad ha
      refine ⟨by omega, fun e => ?_⟩
      rcases hnv _ e with e | e
      · have := hvo _ e.symm
        omega
      · omega
  · by_cases hlt : q < Rb.length
    · obtain ⟨h1, h2⟩ := h.eq q hlt
      exact ⟨h1, by rw [List.getElem_append_left hlt]; exact h2⟩
    · have hq' : q = j := by have := h.len; simp at hq; omega
      subst hq'
      refine ⟨by rw [← hk]; exact hkR, ?_⟩
      rw [List.getElem_append_right (by omega)]
      simp only [h.len, Nat.sub_self, List.getElem_cons_zero]
      subst hr
      simp only [hk]

theorem Laid.perm {B : Nat} {vb : Value} {w : World} {R Rb : List RH} {t : Int} (h : Laid B vb w R t R.length Rb) : (Rb.map (·.l)).Perm (R.map (·.l)) := by
  by_cases ht0 : 0 < t
  · by_cases hn0 : R.length = 0
    · have h1 : R = [] := List.length_eq_zero_iff.1 hn0
      have h2 : Rb = [] := List.length_eq_zero_iff.1 (h.len.trans hn0)
      rw [h1, h2]
    · obtain ⟨x, hx⟩ : ∃ x, x = (t.tmod (R.length : Int)).toNat := ⟨_, rfl⟩
      have hxn : x < R.length := by
        have h1 := Int.tmod_lt_of_pos t (b := (R.length : Int)) (by omega)
        have h2 := Int.tmod_nonneg (R.length : Int) (a := t) (by omega)
        omega
      have he : Rb.map (·.l) = (R.map (·.l)).drop x ++ (R.map (·.l)).take x := by
        refine List.ext_getElem (by simp [h.len]; omega) (fun j h1 h2 => ?_)
        have hj : j < Rb.length := by simpa using h1
        have hjn : j < R.length := by rw [h.len] at hj; exact hj
        obtain ⟨h3, h4⟩ := h.eq j hj
        have hk : turnK R.length t j = (j + x) % R.length := by unfold turnK; rw [if_pos ht0, hx]
        rw [List.getElem_map, h4]
        by_cases hc : j < R.length - x
        · rw [List.getElem_append_left (by simp; omega), List.getElem_drop, List.getElem_map]
          have e : turnK R.length t j = x + j := by rw [hk, Nat.mod_eq_of_lt (by omega)]; omega
          simp only [e]
        · rw [List.getElem_append_right (by simp; omega), List.getElem_take, List.getElem_map]
          have e : turnK R.length t j = j - ((R.map (·.l)).drop x).length := by
            rw [hk, List.length_drop, List.length_map, Nat.mod_eq_sub_mod (by omega), Nat.mod_eq_of_lt (by omega)]; omega
          simp only [e]
      rw [he]
      have := List.perm_append_comm (l₁ := (R.map (·.l)).drop x) (l₂ := (R.map (·.l)).take x)
      rwa [List.take_append_drop] at this
  · have he : Rb.map (·.l) = R.map (·.l) := by
      refine List.ext_getElem (by simp [h.len]) (fun j h1 h2 => ?_)
      obtain ⟨h3, h4⟩ := h.eq j (by simpa using h1)
      have hk : turnK R.length t j = j := by unfold turnK; rw [if_neg ht0]
      rw [List.getElem_map, List.getElem_map, h4]
      simp only [hk]
    rw [he]

set_option maxRecDepth 100000 in
set_option maxHeartbeats 4000000 in
theorem hist_any {w : World} {A : Option Addr} {cap : Nat} {R : List RH} (hr : RRead w (.slice A R.length cap) R) (hc : ∀ r ∈ R, VAt w r.A r.l ∧ r.l.length * 32 ≤ 140737488351232 ∧ (r.A = none → r.cap = 0)) (hb : R.length * 24 ≤ 140737488351232)
    (t : Int) (ht1 : -9223372036854775808 ≤ t) (ht2 : t ≤ 9223372036854775807) (haw : ∀ w, Calls Tryz.prog 6 #[] w fun e w' => e = .returned (.bool true) ∧ Below w.heap.size w w') (c0 c1 c2 c3' c4 c5 c6' c7 c8 c9 c10 c11 : Value) :
    Calls Tryz.prog 3 #[.slice A R.length cap, .int .i64 t, .agg #[c0, c1, c2, c3', c4, c5, c6', c7, c8, c9, c10, c11]] w fun e w' => e = .returned (.bool true) ∧ Below w.heap.size w w' := by
  obtain ⟨n, hn⟩ : ∃ n, n = R.length := ⟨_, rfl⟩
  rw [← hn] at hr hb ⊢
  obtain ⟨W, hW⟩ : ∃ W, W = ((w.alloc (.cells #[c0, c1, c2, c3', c4, c5, c6', c7, c8, c9, c10, c11] 28)).alloc (.cells #[.int .i64 n, .slice A n cap] 30)).alloc (.cells #[.int .i64 n, .slice none 0 0] 30) := ⟨_, rfl⟩
  have hBW : Below w.heap.size w W := by rw [hW]; exact (((Below.refl _ _).alloc (Nat.le_refl _) _).alloc (by simp) _).alloc (by simp; omega) _
  have hsz : W.heap.size = w.heap.size + 3 := by rw [hW]; simp
  have b2 : W.heap[w.heap.size + 2]? = some (.cells #[.int .i64 n, .slice none 0 0] 30 (0, 0)) := by
    rw [hW]
    have := heap_alloc_new ((w.alloc (.cells #[c0, c1, c2, c3', c4, c5, c6', c7, c8, c9, c10, c11] 28)).alloc (.cells #[.int .i64 n, .slice A n cap] 30)) (.cells #[.int .i64 n, .slice none 0 0] 30)
    rwa [World.size_alloc, World.size_alloc] at this
  have HW := Lib.hid hsz
  have HB2 := Lib.hid b2
  have HBW := Lib.hid hBW
  have HN := Lib.hid hn
  have HR := Lib.hid hr
  have HC := Lib.hid hc
  have hn64 : (n : Int) ≤ 9223372036854775807 := by omega
  have HAW := Lib.hid haw
  clear haw
  clear hr hc hBW b2 hn
  go_enter Tryz.func3, Tryz.ntmps3
  go_wp2_with fail
  rw [← hW]
  have HWW := Lib.hid hW
  clear hW hsz
  go_loopw [9] (fun j wr => ∃ i : Nat, i ≤ n ∧ j = .int .i64 i ∧ Hid (∃ vb Rb, wr.heap[w.heap.size + 2]? = some (.cells #[.int .i64 n, vb] 30 (0, 0)) ∧ ROwn wr (w.heap.size + 3) vb Rb ∧ Laid (w.heap.size + 3) vb wr R t i Rb ∧ Below (w.heap.size + 2) W wr)) (fun j _ => n - (intOf j).toNat)
  case atStart => exact ⟨0, Nat.zero_le _, rfl, Lib.hid ⟨_, [], HB2.out, ⟨rfl, .inl ⟨rfl, rfl⟩⟩, ⟨rfl, fun r hr => by simp at hr, fun r hr => by simp at hr, fun k hk => by simp at hk⟩, Below.refl _ _⟩⟩
  case round =>
    obtain ⟨i, hi, rfl, hG⟩ := hrel
    by_cases hlt : i < n
    · have hnz : ¬ (n : Int) = 0 := by omega
      have hnz2 : ((n : Int) == 0) = false := by simp; omega
      have hnm1 : ¬ (n : Int) = -1 := by omega
      obtain ⟨k, hk⟩ : ∃ k, k = turnK n t i := ⟨_, rfl⟩
      have hkn : k < n := by
        rw [hk]; unfold turnK
        split
        · exact Nat.mod_lt _ (by omega)
        · exact hlt
      by_cases ht0 : 0 < t
      · obtain ⟨x, hx⟩ : ∃ x : Nat, t.tmod (n : Int) = (x : Int) := ⟨(t.tmod n).toNat, by rw [Int.toNat_of_nonneg (Int.tmod_nonneg _ (by omega))]⟩
        have hxn : x < n := by
          have h1 := Int.tmod_lt_of_pos t (b := (n : Int)) (by omega)
          omega
        have hkx : ((i : Int) + (x : Int)).tmod (n : Int) = (k : Int) := by
          rw [hk]; unfold turnK
          rw [if_pos ht0, hx, Int.tmod_eq_emod_of_nonneg (by omega)]
          simp
        have HK := Lib.hid hk
        clear hk
        obtain ⟨vb, Rb, hvb, hOb, hLb, hBb⟩ := hG.out
        obtain ⟨A', c', hA', hz', hro⟩ := HR.out
        obtain ⟨rfl, rfl⟩ : A' = A ∧ c' = cap := by simp at hA'; exact ⟨hA'.1.symm, hA'.2.2.symm⟩
        obtain ⟨ad, rfl, had, hcl⟩ := hro k (by rw [← HN.out]; exact hkn)
        obtain ⟨r, hrk⟩ : ∃ r, r = R[k]'(by rw [← HN.out]; exact hkn) := ⟨_, rfl⟩
        rw [← hrk] at hcl
        have HVB := Lib.hid hvb
        have HOB := Lib.hid hOb
        have HLB := Lib.hid hLb
        have HBB := Lib.hid hBb
        have HAD := Lib.hid had
        have HRK := Lib.hid hrk
        have HQ : Hid (wr.drew.cell? (ad.add k) = some (hv r) ∧ wr.drew.cell? ⟨w.heap.size + 1 + 1, 1, none⟩ = some vb) := Lib.hid ⟨by
          have h1 := HBW.out.cell (p := ad.add k) (by rw [block_of_add]; exact had)
          have h2 := hBb.cell (p := ad.add k) (by rw [block_of_add]; omega)
          exact (h2.trans h1).trans hcl, cell_of_row wr (w.heap.size + 2) 1 _ _ (0, 0) hvb⟩
        have HOV : Hid (wr.ownsRow (w.heap.size + 3) 24 1 vb i (Rb.map hv)) := Lib.hid (by have h1 := hOb; unfold ROwn at h1; rw [hLb.len] at h1; exact h1)
        have HNE : Hid (∀ q, q < w.heap.size + 3 → some q ≠ vb.ownBlock) := Lib.hid (fun q hq e => by
          rcases HOV.out.2 with ⟨h1, -⟩ | ⟨g, c9, cur, h1, h2, -⟩
          · rw [h1] at e; simp [Value.ownBlock] at e
          · rw [h1] at e; simp [Value.ownBlock] at e; omega)
        clear hvb hOb hLb hBb had hrk hro hcl hA' hz'
        go_wp2_with fail
        refine wp_region_K (S := fun w' => w'.cell? (ad.add k) = some (hv r) ∧ w'.cell? ⟨w.heap.size + 1 + 1, 1, none⟩ = some vb) 11 (by kernel_rfl) ?_ (fun hHeld => ?_)
        · exact ⟨HQ.out.1, HQ.out.2⟩
        refine wpAnyK_take (i := 0) (v := .pointer (some ⟨w.heap.size + 1 + 1, 1, none⟩)) rfl (by kernel_rfl) (by kernel_rfl) (by kernel_rfl) (by kernel_rfl) (by decide) (by kernel_rfl) (fun _ _ _ h => h) (Or.inl ⟨by kernel_rfl, ?_⟩) (by assumption) ?_
        · (intro w hSw; (try dsimp only at hSw); go_split_ands; go_simp)
        try simp only [List.getElem_toArray, List.getElem_cons_zero, Act.put, List.setIfInBounds_toArray, List.set_cons_zero, List.set_cons_succ]
        refine wpAnyK_take (i := 1) (v := vb) rfl (by kernel_rfl) (by kernel_rfl) (by kernel_rfl) (by kernel_rfl) (by decide) (by kernel_rfl) (fun _ _ _ h => h) (Or.inl ⟨by kernel_rfl, ?_⟩) (by assumption) ?_
        · (intro w hSw; (try dsimp only at hSw); go_split_ands; go_simp)
        try simp only [List.getElem_toArray, List.getElem_cons_zero, List.getElem_cons_succ, Act.put, List.setIfInBounds_toArray, List.set_cons_zero, List.set_cons_succ]
        refine wpAnyK_take (i := 3) (v := .slice (some ad) n c') rfl (by kernel_rfl) (by kernel_rfl) (by kernel_rfl) (by kernel_rfl) (by decide) (by kernel_rfl) (fun _ _ _ h => h) (Or.inl ⟨by kernel_rfl, ?_⟩) (by assumption) ?_
        · (intro w hSw; (try dsimp only at hSw); go_split_ands; go_simp)
        try simp only [List.getElem_toArray, List.getElem_cons_zero, List.getElem_cons_succ, Act.put, List.setIfInBounds_toArray, List.set_cons_zero, List.set_cons_succ]
        refine wpAnyK_take (i := 4) (v := .int .i64 (k : Int)) rfl (by kernel_rfl) (by kernel_rfl) (by kernel_rfl) (by kernel_rfl) (by decide) (by kernel_rfl) (fun _ _ _ h => h) (Or.inl ⟨by kernel_rfl, ?_⟩) (by assumption) ?_
        · (intro w hSw; (try dsimp only at hSw); go_split_ands; go_simp)
        try simp only [List.getElem_toArray, List.getElem_cons_zero, List.getElem_cons_succ, Act.put, List.setIfInBounds_toArray, List.set_cons_zero, List.set_cons_succ]
        refine wpAnyK_take (i := 5) (v := .pointer (some (ad.add k))) rfl (by kernel_rfl) (by kernel_rfl) (by kernel_rfl) (by kernel_rfl) (by decide) (by kernel_rfl) (fun _ _ _ h => h) (Or.inl ⟨by kernel_rfl, ?_⟩) (by assumption) ?_
        · (intro w hSw; (try dsimp only at hSw); go_split_ands; go_simp)
        try simp only [List.getElem_toArray, List.getElem_cons_zero, List.getElem_cons_succ, Act.put, List.setIfInBounds_toArray, List.set_cons_zero, List.set_cons_succ]
        refine wpAnyK_take (i := 6) (v := hv r) rfl (by kernel_rfl) (by kernel_rfl) (by kernel_rfl) (by kernel_rfl) (by decide) (by kernel_rfl) (fun _ _ _ h => h) (Or.inl ⟨by kernel_rfl, ?_⟩) (by assumption) ?_
        · (intro w hSw; (try dsimp only at hSw); go_split_ands; go_simp)
        try simp only [List.getElem_toArray, List.getElem_cons_zero, List.getElem_cons_succ, Act.put, List.setIfInBounds_toArray, List.set_cons_zero, List.set_cons_succ]
        have hsz0 : wr.drew.heap.size = wr.heap.size := rfl
        have HSZ0 := Lib.hid hsz0
        have hrc := HC.out r (by rw [HRK.out]; exact List.getElem_mem _)
        have HRC := Lib.hid hrc
        have HSB : Hid (∀ w', Below wr.drew.heap.size wr.drew w' → w'.cell? (ad.add k) = some (hv r) ∧ w'.cell? ⟨w.heap.size + 1 + 1, 1, none⟩ = some vb ∧ w'.heap[w.heap.size + 2]? = some (.cells #[.int .i64 n, vb] 30 (0, 0))) := Lib.hid (fun w' hb' => ⟨(hb'.cell (p := ad.add k) (by have := HAD.out; have := HBW.out.size; have := HBB.out.size; rw [block_of_add]; show _ < wr.heap.size; omega)).trans HQ.out.1, (hb'.cell (p := ⟨w.heap.size + 1 + 1, 1, none⟩) (Array.getElem?_eq_some_iff.1 HVB.out).1).trans HQ.out.2, (hb'.block _ (Array.getElem?_eq_some_iff.1 HVB.out).1).trans HVB.out⟩)
        obtain ⟨i1, hi1, hz1, hz2, hz3⟩ := info_parts infoVal
        obtain ⟨i0, hi0, hy1, hy2, hy3⟩ := info_parts infoVals
        clear hrc hsz0
        refine wpAnyK_step (i := 2) (by kernel_rfl) rfl (fun K hK => ?_)
        go_simp
        have hB1 : Below wr.drew.heap.size wr.drew (wr.drew.alloc (.cells #[] 26)) := (Below.refl _ _).alloc (Nat.le_refl _) _
        have HB1 := Lib.hid hB1
        clear hB1
        refine hK.out _ _ ⟨(HSB.out _ HB1.out).1, (HSB.out _ HB1.out).2.1⟩ (fun hHeld => ?_)
        clear hK K
        try simp only [List.getElem_toArray, List.getElem_cons_zero, List.getElem_cons_succ, Act.put, List.setIfInBounds_toArray, List.set_cons_zero, List.set_cons_succ]
        refine wpAnyK_step (i := 7) (by kernel_rfl) rfl (fun K hK => ?_)
        refine step_append_src (by rfl) _ _ 24 (by rfl) wr.drew.heap.size 26 i1 _ 3 32 Tryz.underlying24 hi1 hz1 hz2 hz3 rfl (by omega) (.slice (some ⟨wr.drew.heap.size, 0, none⟩) 0 0) 0 [] (by rfl) (vown_empty wr.drew)
          r.A r.l.length r.cap (r.l.flatMap vcells) (by rfl) (fun e => ⟨by
            cases hl : r.l with
            | nil => rfl
            | cons a l => (obtain ⟨p, hp⟩ := HRC.out.1 0 (by rw [hl]; simp); have := hp.at_; rw [e] at this; cases this), HRC.out.2.2 e⟩) (vc_len _)
          (fun j u hu p hp => by
            have hb3 : Below w.heap.size w (wr.drew.alloc (.cells #[] 26)) := HBW.out.trans ((HBB.out.drew.trans (HB1.out.mono (by have := HBB.out.size; have := HW.out; show _ ≤ wr.heap.size; omega))).mono (by omega))
            exact (HRC.out.1.below hb3).reads j u hu p hp) (vc_one _) (by have := HRC.out.2.1; unfold maxLen; omega) (by have := HRC.out.2.1; omega) (by simp) ?_
        intro v1 w2 hown1 hgrow1
        have HB2 : Hid (Below wr.drew.heap.size wr.drew w2) := Lib.hid (HB1.out.grown hgrow1 (by simp) (fun k hk => by
          simp [Value.ownBlock] at hk
          show wr.heap.size ≤ k
          omega))
        simp only [Nat.zero_add, List.nil_append] at hown1
        obtain ⟨A1, c1, rfl⟩ : ∃ A1 c1, v1 = .slice A1 r.l.length c1 := by
          rcases hown1.2 with ⟨rfl, h0⟩ | ⟨g, c9, cur, rfl, -⟩
          · exact ⟨none, 0, by rw [h0]⟩
          · exact ⟨_, _, rfl⟩
        have HV1 : Hid (VAt w2 A1 r.l) := Lib.hid (VOwn.at_ hown1)
        have HA1 : Hid (r.l ≠ [] → ∀ ad, A1 = some ad → wr.heap.size ≤ ad.block ∧ ad.block < w2.heap.size + 1) := Lib.hid (fun hl ad ha => by
          refine ⟨?_, Nat.lt_succ_of_lt (HV1.out.blk hl ha)⟩
          rcases hown1.2 with ⟨e, h0⟩ | ⟨g, c9, cur, e, hg, -⟩
          · exact absurd (List.length_eq_zero_iff.1 h0) hl
          · rw [ha] at e
            simp only [Value.slice.injEq, Option.some.injEq] at e
            rw [e.1]
            exact hg)
        clear hown1 hgrow1
        refine hK.out _ _ ⟨(HSB.out _ HB2.out).1, (HSB.out _ HB2.out).2.1⟩ (fun hHeld => ?_)
        clear hK K
        try simp only [List.getElem_toArray, List.getElem_cons_zero, List.getElem_cons_succ, Act.put, List.setIfInBounds_toArray, List.set_cons_zero, List.set_cons_succ]
        refine wpAnyK_step (i := 8) (by kernel_rfl) rfl (fun K hK => ?_)
        go_simp
        have HB3 : Hid (Below wr.drew.heap.size wr.drew (w2.alloc (.cells #[.slice A1 r.l.length c1] 24))) := Lib.hid (HB2.out.alloc HB2.out.size _)
        refine hK.out _ _ ⟨(HSB.out _ HB3.out).1, (HSB.out _ HB3.out).2.1⟩ (fun hHeld => ?_)
        clear hK K
        try simp only [List.getElem_toArray, List.getElem_cons_zero, List.getElem_cons_succ, Act.put, List.setIfInBounds_toArray, List.set_cons_zero, List.set_cons_succ]
        have HB3' : Hid (Below wr.heap.size wr (w2.alloc (.cells #[.slice A1 r.l.length c1] 24))) := Lib.hid ((Below.refl wr.heap.size wr).drew.trans HB3.out)
        have HO3 : Hid ((w2.alloc (.cells #[.slice A1 r.l.length c1] 24)).ownsRow (w.heap.size + 3) 24 1 vb i (Rb.map hv)) := Lib.hid (by
          obtain ⟨h1, h2⟩ := HOV.out
          refine ⟨h1, ?_⟩
          rcases h2 with h0 | ⟨g, c9, cur, e, hg, hh, r1⟩
          · exact .inl h0
          · exact .inr ⟨g, c9, cur, e, hg, (HB3'.out.block g (Array.getElem?_eq_some_iff.1 hh).1).trans hh, r1⟩)
        refine wpAnyK_step (i := 9) (by kernel_rfl) rfl (fun K hK => ?_)
        refine step_append_lies _ (by rfl) _ _ _ (by rfl) (w.heap.size + 3) 24 i0 _ 1 24 Tryz.underlying22 hi0 hy1 hy2 hy3 rfl (by omega) vb i (Rb.map hv) (by rfl) HO3.out
          ⟨w2.heap.size, 0, none⟩ 1 1 [.slice A1 r.l.length c1] (by rfl) (by rfl) (World.news_of_block (cs := #[.slice A1 r.l.length c1]) (t := 24) (fr := (0, 0)) (heap_alloc_new w2 _)) (by simp [Value.oneCell'])
          (by omega) (by unfold maxLen; omega) (by omega) (by have := HBB.out.size; have := HW.out; have := HB3'.out.size; omega) (w2.heap.size + 1) (by simp) ?_
        intro gg cg w4 hown4 hgrow4 hat4 hlt4
        have HG4 := Lib.hid hgrow4
        have HO4 := Lib.hid hown4
        have HL4 := Lib.hid hlt4
        have HAT4 := Lib.hid hat4
        have hbk : w4.heap[w.heap.size + 2]? = some (.cells #[.int .i64 n, vb] 30 (0, 0)) := (hgrow4.block _ (by have := (Array.getElem?_eq_some_iff.1 (HSB.out _ HB3.out).2.2).1; exact this) (HNE.out _ (by omega))).trans (HSB.out _ HB3.out).2.2
        have hS4 : w4.cell? (ad.add k) = some (hv r) ∧ w4.cell? ⟨w.heap.size + 1 + 1, 1, none⟩ = some vb := ⟨(hgrow4.cell_far _ (World.block_lt_of_cell? _ _ (HSB.out _ HB3.out).1) (by rw [block_of_add]; exact HNE.out _ (by have := HAD.out; omega))).trans (HSB.out _ HB3.out).1, cell_of_row w4 (w.heap.size + 2) 1 _ _ (0, 0) hbk⟩
        have kf := Lib.frozen_of_heap hbk 1
        have HBK := Lib.hid hbk
        clear hgrow4 hown4 hat4 hlt4 hbk
        refine hK.out _ _ hS4 (fun hHeld => ?_)
        clear hK K
        try simp only [List.getElem_toArray, List.getElem_cons_zero, List.getElem_cons_succ, Act.put, List.setIfInBounds_toArray, List.set_cons_zero, List.set_cons_succ]
        refine wpAnyK_take (i := 10) (v := .pointer (some ⟨w.heap.size + 1 + 1, 1, none⟩)) rfl (by kernel_rfl) (by kernel_rfl) (by kernel_rfl) (by kernel_rfl) (by decide) (by kernel_rfl) (fun _ _ _ h => h) (Or.inl ⟨by kernel_rfl, ?_⟩) (by assumption) ?_
        · (intro w hSw; (try dsimp only at hSw); go_split_ands; go_simp)
        try simp only [List.getElem_toArray, List.getElem_cons_zero, List.getElem_cons_succ, Act.put, List.setIfInBounds_toArray, List.set_cons_zero, List.set_cons_succ]
        refine wpAnyK_last (i := 11) (by kernel_rfl) rfl (by kernel_rfl) (fun K hK => ?_)
        go_split_ands
        go_simp
        have HW5 : Hid ((w4.setCell ⟨w.heap.size + 1 + 1, 1, none⟩ (.slice (some ⟨gg, 0, none⟩) (i + 1) cg)).heap[w.heap.size + 2]? = some (.cells #[.int .i64 n, .slice (some ⟨gg, 0, none⟩) (i + 1) cg] 30 (0, 0))) := Lib.hid (by
          have h1 := HBK.out
          simp [World.setCell, Array.getElem?_modify, h1])
        have HF5 : Hid (∀ q, q ≠ w.heap.size + 2 → (w4.setCell ⟨w.heap.size + 1 + 1, 1, none⟩ (.slice (some ⟨gg, 0, none⟩) (i + 1) cg)).heap[q]? = w4.heap[q]?) := Lib.hid (fun q hq => Below.heap_setCell _ _ _ q hq)
        have hs5 : (w4.setCell ⟨w.heap.size + 1 + 1, 1, none⟩ (.slice (some ⟨gg, 0, none⟩) (i + 1) cg)).heap.size = w4.heap.size := by simp [World.setCell]
        have HB5 : Hid (Below (w.heap.size + 2) W (w4.setCell ⟨w.heap.size + 1 + 1, 1, none⟩ (.slice (some ⟨gg, 0, none⟩) (i + 1) cg))) := Lib.hid (by
          have h1 : Below (w.heap.size + 2) W (w2.alloc (.cells #[.slice A1 r.l.length c1] 24)) := HBB.out.trans (HB3'.out.mono (by have := HBB.out.size; have := HW.out; omega))
          exact (h1.grown HG4.out (by have := h1.size; have := HW.out; omega) (fun q hq => by
            rcases Nat.lt_or_ge q (w.heap.size + 3) with h9 | h9
            · exact absurd hq.symm (HNE.out q h9)
            · omega)).setCell (p := ⟨w.heap.size + 1 + 1, 1, none⟩) (Nat.le_refl _) _)
        have HL5 : Hid (Laid (w.heap.size + 3) (.slice (some ⟨gg, 0, none⟩) (i + 1) cg) (w4.setCell ⟨w.heap.size + 1 + 1, 1, none⟩ (.slice (some ⟨gg, 0, none⟩) (i + 1) cg)) R t (i + 1) (Rb ++ [⟨A1, c1, r.l⟩])) := Lib.hid (by
          have g1 := HB3'.out.size
          have g2 := HG4.out.size
          have g3 := HBB.out.size
          have g4 := HW.out
          have g5 : (w2.alloc (.cells #[.slice A1 r.l.length c1] 24)).heap.size = w2.heap.size + 1 := by simp
          have g6 := HB2.out.size
          have g7 : wr.drew.heap.size = wr.heap.size := rfl
          refine HLB.out.more (H := w2.heap.size + 1) (by rw [← HN.out]; exact HK.out) (by rw [← HN.out]; exact hkn) HRK.out (by omega) (fun q hq1 hq2 hq3 => ?_) (by omega) ?_ (by have := HRC.out.2.1; omega) HA1.out (fun q hq => ?_) (fun q hq => ?_) (by omega)
          · exact ((HF5.out q (by omega)).trans (HG4.out.block q (by omega) hq3)).trans (HB3'.out.block q hq1)
          · refine HV1.out.keptAt (by omega) (fun hl ad ha => ?_)
            obtain ⟨a1, a2⟩ := HA1.out hl ad ha
            have a3 := HV1.out.blk hl ha
            refine ((HF5.out _ (by omega)).trans (HG4.out.block _ (by omega) (fun e => ?_))).trans (Below.heap_alloc _ _ _ a3)
            rcases HOV.out.2 with ⟨h1, -⟩ | ⟨g, c9, cur, h1, h2, h3, -⟩
            · rw [h1] at e; simp [Value.ownBlock] at e
            · rw [h1] at e
              simp [Value.ownBlock] at e
              have := (Array.getElem?_eq_some_iff.1 h3).1
              omega
          · rcases HOV.out.2 with ⟨h1, -⟩ | ⟨g, c9, cur, h1, h2, h3, -⟩
            · rw [h1] at hq; simp [Value.ownBlock] at hq
            · rw [h1] at hq
              simp [Value.ownBlock] at hq
              have := (Array.getElem?_eq_some_iff.1 h3).1
              omega
          · simp [Value.ownBlock] at hq
            rcases HAT4.out with e | e
            · left; rw [e, hq]
            · right; omega)
        have HO5 : Hid (ROwn (w4.setCell ⟨w.heap.size + 1 + 1, 1, none⟩ (.slice (some ⟨gg, 0, none⟩) (i + 1) cg)) (w.heap.size + 3) (.slice (some ⟨gg, 0, none⟩) (i + 1) cg) (Rb ++ [⟨A1, c1, r.l⟩])) := Lib.hid (by
          have h1 : ROwn w4 (w.heap.size + 3) (.slice (some ⟨gg, 0, none⟩) (i + 1) cg) (Rb ++ [⟨A1, c1, r.l⟩]) := by
            have h2 := HO4.out
            unfold ROwn
            rw [List.length_append, HLB.out.len, List.map_append]
            exact h2
          refine h1.kept (fun q hq e => HF5.out q ?_)
          rcases h1.2 with ⟨h2, -⟩ | ⟨g, c9, cur, h2, h3, -⟩
          · cases h2
          · rw [h2] at e
            simp [Value.ownBlock] at e
            omega)
        refine hK.out _ _ ?_
        clear hK K
        try simp only [List.getElem_toArray, List.getElem_cons_zero, List.getElem_cons_succ, Act.put, List.setIfInBounds_toArray, List.set_cons_zero, List.set_cons_succ]
        refine wpAnyK_done (by kernel_rfl) ?_ _
        clear kf
        go_wp2_with fail
        go_roundw
        case rel => exact ⟨i + 1, by omega, by go_num, Lib.hid ⟨_, _, HW5.out, HO5.out, HL5.out, HB5.out⟩⟩
        case measure => simp [intOf]; omega
      · have hkx : i = k := by rw [hk]; unfold turnK; rw [if_neg ht0]
        subst hkx
        have HK := Lib.hid hk
        clear hk
        obtain ⟨vb, Rb, hvb, hOb, hLb, hBb⟩ := hG.out
        obtain ⟨A', c', hA', hz', hro⟩ := HR.out
        obtain ⟨rfl, rfl⟩ : A' = A ∧ c' = cap := by simp at hA'; exact ⟨hA'.1.symm, hA'.2.2.symm⟩
        obtain ⟨ad, rfl, had, hcl⟩ := hro i (by rw [← HN.out]; exact hkn)
        obtain ⟨r, hrk⟩ : ∃ r, r = R[i]'(by rw [← HN.out]; exact hkn) := ⟨_, rfl⟩
        rw [← hrk] at hcl
        have HVB := Lib.hid hvb
        have HOB := Lib.hid hOb
        have HLB := Lib.hid hLb
        have HBB := Lib.hid hBb
        have HAD := Lib.hid had
        have HRK := Lib.hid hrk
        have HQ : Hid (wr.drew.cell? (ad.add i) = some (hv r) ∧ wr.drew.cell? ⟨w.heap.size + 1 + 1, 1, none⟩ = some vb) := Lib.hid ⟨by
          have h1 := HBW.out.cell (p := ad.add i) (by rw [block_of_add]; exact had)
          have h2 := hBb.cell (p := ad.add i) (by rw [block_of_add]; omega)
          exact (h2.trans h1).trans hcl, cell_of_row wr (w.heap.size + 2) 1 _ _ (0, 0) hvb⟩
        have HOV : Hid (wr.ownsRow (w.heap.size + 3) 24 1 vb i (Rb.map hv)) := Lib.hid (by have h1 := hOb; unfold ROwn at h1; rw [hLb.len] at h1; exact h1)
        have HNE : Hid (∀ q, q < w.heap.size + 3 → some q ≠ vb.ownBlock) := Lib.hid (fun q hq e => by
          rcases HOV.out.2 with ⟨h1, -⟩ | ⟨g, c9, cur, h1, h2, -⟩
          · rw [h1] at e; simp [Value.ownBlock] at e
          · rw [h1] at e; simp [Value.ownBlock] at e; omega)
        clear hvb hOb hLb hBb had hrk hro hcl hA' hz'
        go_wp2_with fail
        refine wp_region_K (S := fun w' => w'.cell? (ad.add i) = some (hv r) ∧ w'.cell? ⟨w.heap.size + 1 + 1, 1, none⟩ = some vb) 11 (by kernel_rfl) ?_ (fun hHeld => ?_)
        · exact ⟨HQ.out.1, HQ.out.2⟩
        refine wpAnyK_take (i := 0) (v := .pointer (some ⟨w.heap.size + 1 + 1, 1, none⟩)) rfl (by kernel_rfl) (by kernel_rfl) (by kernel_rfl) (by kernel_rfl) (by decide) (by kernel_rfl) (fun _ _ _ h => h) (Or.inl ⟨by kernel_rfl, ?_⟩) (by assumption) ?_
        · (intro w hSw; (try dsimp only at hSw); go_split_ands; go_simp)
        try simp only [List.getElem_toArray, List.getElem_cons_zero, Act.put, List.setIfInBounds_toArray, List.set_cons_zero, List.set_cons_succ]
        refine wpAnyK_take (i := 1) (v := vb) rfl (by kernel_rfl) (by kernel_rfl) (by kernel_rfl) (by kernel_rfl) (by decide) (by kernel_rfl) (fun _ _ _ h => h) (Or.inl ⟨by kernel_rfl, ?_⟩) (by assumption) ?_
        · (intro w hSw; (try dsimp only at hSw); go_split_ands; go_simp)
        try simp only [List.getElem_toArray, List.getElem_cons_zero, List.getElem_cons_succ, Act.put, List.setIfInBounds_toArray, List.set_cons_zero, List.set_cons_succ]
        refine wpAnyK_take (i := 3) (v := .slice (some ad) n c') rfl (by kernel_rfl) (by kernel_rfl) (by kernel_rfl) (by kernel_rfl) (by decide) (by kernel_rfl) (fun _ _ _ h => h) (Or.inl ⟨by kernel_rfl, ?_⟩) (by assumption) ?_
        · (intro w hSw; (try dsimp only at hSw); go_split_ands; go_simp)
        try simp only [List.getElem_toArray, List.getElem_cons_zero, List.getElem_cons_succ, Act.put, List.setIfInBounds_toArray, List.set_cons_zero, List.set_cons_succ]
        refine wpAnyK_take (i := 4) (v := .int .i64 (i : Int)) rfl (by kernel_rfl) (by kernel_rfl) (by kernel_rfl) (by kernel_rfl) (by decide) (by kernel_rfl) (fun _ _ _ h => h) (Or.inl ⟨by kernel_rfl, ?_⟩) (by assumption) ?_
        · (intro w hSw; (try dsimp only at hSw); go_split_ands; go_simp)
        try simp only [List.getElem_toArray, List.getElem_cons_zero, List.getElem_cons_succ, Act.put, List.setIfInBounds_toArray, List.set_cons_zero, List.set_cons_succ]
        refine wpAnyK_take (i := 5) (v := .pointer (some (ad.add i))) rfl (by kernel_rfl) (by kernel_rfl) (by kernel_rfl) (by kernel_rfl) (by decide) (by kernel_rfl) (fun _ _ _ h => h) (Or.inl ⟨by kernel_rfl, ?_⟩) (by assumption) ?_
        · (intro w hSw; (try dsimp only at hSw); go_split_ands; go_simp)
        try simp only [List.getElem_toArray, List.getElem_cons_zero, List.getElem_cons_succ, Act.put, List.setIfInBounds_toArray, List.set_cons_zero, List.set_cons_succ]
        refine wpAnyK_take (i := 6) (v := hv r) rfl (by kernel_rfl) (by kernel_rfl) (by kernel_rfl) (by kernel_rfl) (by decide) (by kernel_rfl) (fun _ _ _ h => h) (Or.inl ⟨by kernel_rfl, ?_⟩) (by assumption) ?_
        · (intro w hSw; (try dsimp only at hSw); go_split_ands; go_simp)
        try simp only [List.getElem_toArray, List.getElem_cons_zero, List.getElem_cons_succ, Act.put, List.setIfInBounds_toArray, List.set_cons_zero, List.set_cons_succ]
        have hsz0 : wr.drew.heap.size = wr.heap.size := rfl
        have HSZ0 := Lib.hid hsz0
        have hrc := HC.out r (by rw [HRK.out]; exact List.getElem_mem _)
        have HRC := Lib.hid hrc
        have HSB : Hid (∀ w', Below wr.drew.heap.size wr.drew w' → w'.cell? (ad.add i) = some (hv r) ∧ w'.cell? ⟨w.heap.size + 1 + 1, 1, none⟩ = some vb ∧ w'.heap[w.heap.size + 2]? = some (.cells #[.int .i64 n, vb] 30 (0, 0))) := Lib.hid (fun w' hb' => ⟨(hb'.cell (p := ad.add i) (by have := HAD.out; have := HBW.out.size; have := HBB.out.size; rw [block_of_add]; show _ < wr.heap.size; omega)).trans HQ.out.1, (hb'.cell (p := ⟨w.heap.size + 1 + 1, 1, none⟩) (Array.getElem?_eq_some_iff.1 HVB.out).1).trans HQ.out.2, (hb'.block _ (Array.getElem?_eq_some_iff.1 HVB.out).1).trans HVB.out⟩)
        obtain ⟨i1, hi1, hz1, hz2, hz3⟩ := info_parts infoVal
        obtain ⟨i0, hi0, hy1, hy2, hy3⟩ := info_parts infoVals
        clear hrc hsz0
        refine wpAnyK_step (i := 2) (by kernel_rfl) rfl (fun K hK => ?_)
        go_simp
        have hB1 : Below wr.drew.heap.size wr.drew (wr.drew.alloc (.cells #[] 26)) := (Below.refl _ _).alloc (Nat.le_refl _) _
        have HB1 := Lib.hid hB1
        clear hB1
        refine hK.out _ _ ⟨(HSB.out _ HB1.out).1, (HSB.out _ HB1.out).2.1⟩ (fun hHeld => ?_)
        clear hK K
        try simp only [List.getElem_toArray, List.getElem_cons_zero, List.getElem_cons_succ, Act.put, List.setIfInBounds_toArray, List.set_cons_zero, List.set_cons_succ]
        refine wpAnyK_step (i := 7) (by kernel_rfl) rfl (fun K hK => ?_)
        refine step_append_src (by rfl) _ _ 24 (by rfl) wr.drew.heap.size 26 i1 _ 3 32 Tryz.underlying24 hi1 hz1 hz2 hz3 rfl (by omega) (.slice (some ⟨wr.drew.heap.size, 0, none⟩) 0 0) 0 [] (by rfl) (vown_empty wr.drew)
          r.A r.l.length r.cap (r.l.flatMap vcells) (by rfl) (fun e => ⟨by
            cases hl : r.l with
            | nil => rfl
            | cons a l => (obtain ⟨p, hp⟩ := HRC.out.1 0 (by rw [hl]; simp); have := hp.at_; rw [e] at this; cases this), HRC.out.2.2 e⟩) (vc_len _)
          (fun j u hu p hp => by
            have hb3 : Below w.heap.size w (wr.drew.alloc (.cells #[] 26)) := HBW.out.trans ((HBB.out.drew.trans (HB1.out.mono (by have := HBB.out.size; have := HW.out; show _ ≤ wr.heap.size; omega))).mono (by omega))
            exact (HRC.out.1.below hb3).reads j u hu p hp) (vc_one _) (by have := HRC.out.2.1; unfold maxLen; omega) (by have := HRC.out.2.1; omega) (by simp) ?_
        intro v1 w2 hown1 hgrow1
        have HB2 : Hid (Below wr.drew.heap.size wr.drew w2) := Lib.hid (HB1.out.grown hgrow1 (by simp) (fun i hk => by
          simp [Value.ownBlock] at hk
          show wr.heap.size ≤ i
          omega))
        simp only [Nat.zero_add, List.nil_append] at hown1
        obtain ⟨A1, c1, rfl⟩ : ∃ A1 c1, v1 = .slice A1 r.l.length c1 := by
          rcases hown1.2 with ⟨rfl, h0⟩ | ⟨g, c9, cur, rfl, -⟩
          · exact ⟨none, 0, by rw [h0]⟩
          · exact ⟨_, _, rfl⟩
        have HV1 : Hid (VAt w2 A1 r.l) := Lib.hid (VOwn.at_ hown1)
        have HA1 : Hid (r.l ≠ [] → ∀ ad, A1 = some ad → wr.heap.size ≤ ad.block ∧ ad.block < w2.heap.size + 1) := Lib.hid (fun hl ad ha => by
          refine ⟨?_, Nat.lt_succ_of_lt (HV1.out.blk hl ha)⟩
          rcases hown1.2 with ⟨e, h0⟩ | ⟨g, c9, cur, e, hg, -⟩
          · exact absurd (List.length_eq_zero_iff.1 h0) hl
          · rw [ha] at e
            simp only [Value.slice.injEq, Option.some.injEq] at e
            rw [e.1]
            exact hg)
        clear hown1 hgrow1
        refine hK.out _ _ ⟨(HSB.out _ HB2.out).1, (HSB.out _ HB2.out).2.1⟩ (fun hHeld => ?_)
        clear hK K
        try simp only [List.getElem_toArray, List.getElem_cons_zero, List.getElem_cons_succ, Act.put, List.setIfInBounds_toArray, List.set_cons_zero, List.set_cons_succ]
        refine wpAnyK_step (i := 8) (by kernel_rfl) rfl (fun K hK => ?_)
        go_simp
        have HB3 : Hid (Below wr.drew.heap.size wr.drew (w2.alloc (.cells #[.slice A1 r.l.length c1] 24))) := Lib.hid (HB2.out.alloc HB2.out.size _)
        refine hK.out _ _ ⟨(HSB.out _ HB3.out).1, (HSB.out _ HB3.out).2.1⟩ (fun hHeld => ?_)
        clear hK K
        try simp only [List.getElem_toArray, List.getElem_cons_zero, List.getElem_cons_succ, Act.put, List.setIfInBounds_toArray, List.set_cons_zero, List.set_cons_succ]
        have HB3' : Hid (Below wr.heap.size wr (w2.alloc (.cells #[.slice A1 r.l.length c1] 24))) := Lib.hid ((Below.refl wr.heap.size wr).drew.trans HB3.out)
        have HO3 : Hid ((w2.alloc (.cells #[.slice A1 r.l.length c1] 24)).ownsRow (w.heap.size + 3) 24 1 vb i (Rb.map hv)) := Lib.hid (by
          obtain ⟨h1, h2⟩ := HOV.out
          refine ⟨h1, ?_⟩
          rcases h2 with h0 | ⟨g, c9, cur, e, hg, hh, r1⟩
          · exact .inl h0
          · exact .inr ⟨g, c9, cur, e, hg, (HB3'.out.block g (Array.getElem?_eq_some_iff.1 hh).1).trans hh, r1⟩)
        refine wpAnyK_step (i := 9) (by kernel_rfl) rfl (fun K hK => ?_)
        refine step_append_lies _ (by rfl) _ _ _ (by rfl) (w.heap.size + 3) 24 i0 _ 1 24 Tryz.underlying22 hi0 hy1 hy2 hy3 rfl (by omega) vb i (Rb.map hv) (by rfl) HO3.out
          ⟨w2.heap.size, 0, none⟩ 1 1 [.slice A1 r.l.length c1] (by rfl) (by rfl) (World.news_of_block (cs := #[.slice A1 r.l.length c1]) (t := 24) (fr := (0, 0)) (heap_alloc_new w2 _)) (by simp [Value.oneCell'])
          (by omega) (by unfold maxLen; omega) (by omega) (by have := HBB.out.size; have := HW.out; have := HB3'.out.size; omega) (w2.heap.size + 1) (by simp) ?_
        intro gg cg w4 hown4 hgrow4 hat4 hlt4
        have HG4 := Lib.hid hgrow4
        have HO4 := Lib.hid hown4
        have HL4 := Lib.hid hlt4
        have HAT4 := Lib.hid hat4
        have hbk : w4.heap[w.heap.size + 2]? = some (.cells #[.int .i64 n, vb] 30 (0, 0)) := (hgrow4.block _ (by have := (Array.getElem?_eq_some_iff.1 (HSB.out _ HB3.out).2.2).1; exact this) (HNE.out _ (by omega))).trans (HSB.out _ HB3.out).2.2
        have hS4 : w4.cell? (ad.add i) = some (hv r) ∧ w4.cell? ⟨w.heap.size + 1 + 1, 1, none⟩ = some vb := ⟨(hgrow4.cell_far _ (World.block_lt_of_cell? _ _ (HSB.out _ HB3.out).1) (by rw [block_of_add]; exact HNE.out _ (by have := HAD.out; omega))).trans (HSB.out _ HB3.out).1, cell_of_row w4 (w.heap.size + 2) 1 _ _ (0, 0) hbk⟩
        have kf := Lib.frozen_of_heap hbk 1
        have HBK := Lib.hid hbk
        clear hgrow4 hown4 hat4 hlt4 hbk
        refine hK.out _ _ hS4 (fun hHeld => ?_)
        clear hK K
        try simp only [List.getElem_toArray, List.getElem_cons_zero, List.getElem_cons_succ, Act.put, List.setIfInBounds_toArray, List.set_cons_zero, List.set_cons_succ]
        refine wpAnyK_take (i := 10) (v := .pointer (some ⟨w.heap.size + 1 + 1, 1, none⟩)) rfl (by kernel_rfl) (by kernel_rfl) (by kernel_rfl) (by kernel_rfl) (by decide) (by kernel_rfl) (fun _ _ _ h => h) (Or.inl ⟨by kernel_rfl, ?_⟩) (by assumption) ?_
        · (intro w hSw; (try dsimp only at hSw); go_split_ands; go_simp)
        try simp only [List.getElem_toArray, List.getElem_cons_zero, List.getElem_cons_succ, Act.put, List.setIfInBounds_toArray, List.set_cons_zero, List.set_cons_succ]
        refine wpAnyK_last (i := 11) (by kernel_rfl) rfl (by kernel_rfl) (fun K hK => ?_)
        go_split_ands
        go_simp
        have HW5 : Hid ((w4.setCell ⟨w.heap.size + 1 + 1, 1, none⟩ (.slice (some ⟨gg, 0, none⟩) (i + 1) cg)).heap[w.heap.size + 2]? = some (.cells #[.int .i64 n, .slice (some ⟨gg, 0, none⟩) (i + 1) cg] 30 (0, 0))) := Lib.hid (by
          have h1 := HBK.out
          simp [World.setCell, Array.getElem?_modify, h1])
        have HF5 : Hid (∀ q, q ≠ w.heap.size + 2 → (w4.setCell ⟨w.heap.size + 1 + 1, 1, none⟩ (.slice (some ⟨gg, 0, none⟩) (i + 1) cg)).heap[q]? = w4.heap[q]?) := Lib.hid (fun q hq => Below.heap_setCell _ _ _ q hq)
        have hs5 : (w4.setCell ⟨w.heap.size + 1 + 1, 1, none⟩ (.slice (some ⟨gg, 0, none⟩) (i + 1) cg)).heap.size = w4.heap.size := by simp [World.setCell]
        have HB5 : Hid (Below (w.heap.size + 2) W (w4.setCell ⟨w.heap.size + 1 + 1, 1, none⟩ (.slice (some ⟨gg, 0, none⟩) (i + 1) cg))) := Lib.hid (by
          have h1 : Below (w.heap.size + 2) W (w2.alloc (.cells #[.slice A1 r.l.length c1] 24)) := HBB.out.trans (HB3'.out.mono (by have := HBB.out.size; have := HW.out; omega))
          exact (h1.grown HG4.out (by have := h1.size; have := HW.out; omega) (fun q hq => by
            rcases Nat.lt_or_ge q (w.heap.size + 3) with h9 | h9
            · exact absurd hq.symm (HNE.out q h9)
            · omega)).setCell (p := ⟨w.heap.size + 1 + 1, 1, none⟩) (Nat.le_refl _) _)
        have HL5 : Hid (Laid (w.heap.size + 3) (.slice (some ⟨gg, 0, none⟩) (i + 1) cg) (w4.setCell ⟨w.heap.size + 1 + 1, 1, none⟩ (.slice (some ⟨gg, 0, none⟩) (i + 1) cg)) R t (i + 1) (Rb ++ [⟨A1, c1, r.l⟩])) := Lib.hid (by
          have g1 := HB3'.out.size
          have g2 := HG4.out.size
          have g3 := HBB.out.size
          have g4 := HW.out
          have g5 : (w2.alloc (.cells #[.slice A1 r.l.length c1] 24)).heap.size = w2.heap.size + 1 := by simp
          have g6 := HB2.out.size
          have g7 : wr.drew.heap.size = wr.heap.size := rfl
          refine HLB.out.more (H := w2.heap.size + 1) (by rw [← HN.out]; exact HK.out) (by rw [← HN.out]; exact hkn) HRK.out (by omega) (fun q hq1 hq2 hq3 => ?_) (by omega) ?_ (by have := HRC.out.2.1; omega) HA1.out (fun q hq => ?_) (fun q hq => ?_) (by omega)
          · exact ((HF5.out q (by omega)).trans (HG4.out.block q (by omega) hq3)).trans (HB3'.out.block q hq1)
          · refine HV1.out.keptAt (by omega) (fun hl ad ha => ?_)
            obtain ⟨a1, a2⟩ := HA1.out hl ad ha
            have a3 := HV1.out.blk hl ha
            refine ((HF5.out _ (by omega)).trans (HG4.out.block _ (by omega) (fun e => ?_))).trans (Below.heap_alloc _ _ _ a3)
            rcases HOV.out.2 with ⟨h1, -⟩ | ⟨g, c9, cur, h1, h2, h3, -⟩
            · rw [h1] at e; simp [Value.ownBlock] at e
            · rw [h1] at e
              simp [Value.ownBlock] at e
              have := (Array.getElem?_eq_some_iff.1 h3).1
              omega
          · rcases HOV.out.2 with ⟨h1, -⟩ | ⟨g, c9, cur, h1, h2, h3, -⟩
            · rw [h1] at hq; simp [Value.ownBlock] at hq
            · rw [h1] at hq
              simp [Value.ownBlock] at hq
              have := (Array.getElem?_eq_some_iff.1 h3).1
              omega
          · simp [Value.ownBlock] at hq
            rcases HAT4.out with e | e
            · left; rw [e, hq]
            · right; omega)
        have HO5 : Hid (ROwn (w4.setCell ⟨w.heap.size + 1 + 1, 1, none⟩ (.slice (some ⟨gg, 0, none⟩) (i + 1) cg)) (w.heap.size + 3) (.slice (some ⟨gg, 0, none⟩) (i + 1) cg) (Rb ++ [⟨A1, c1, r.l⟩])) := Lib.hid (by
          have h1 : ROwn w4 (w.heap.size + 3) (.slice (some ⟨gg, 0, none⟩) (i + 1) cg) (Rb ++ [⟨A1, c1, r.l⟩]) := by
            have h2 := HO4.out
            unfold ROwn
            rw [List.length_append, HLB.out.len, List.map_append]
            exact h2
          refine h1.kept (fun q hq e => HF5.out q ?_)
          rcases h1.2 with ⟨h2, -⟩ | ⟨g, c9, cur, h2, h3, -⟩
          · cases h2
          · rw [h2] at e
            simp [Value.ownBlock] at e
            omega)
        refine hK.out _ _ ?_
        clear hK K
        try simp only [List.getElem_toArray, List.getElem_cons_zero, List.getElem_cons_succ, Act.put, List.setIfInBounds_toArray, List.set_cons_zero, List.set_cons_succ]
        refine wpAnyK_done (by kernel_rfl) ?_ _
        clear kf
        go_wp2_with fail
        go_roundw
        case rel => exact ⟨i + 1, by omega, by go_num, Lib.hid ⟨_, _, HW5.out, HO5.out, HL5.out, HB5.out⟩⟩
        case measure => simp [intOf]; omega
    · obtain rfl : i = n := by omega
      obtain ⟨vb, Rb, hvb, hOb, hLb, hBb⟩ := hG.out
      obtain ⟨Ab, cb, hvf⟩ := hOb.form
      rw [hLb.len] at hvf
      subst hvf
      obtain ⟨i0, hi0, hy1, hy2, hy3⟩ := info_parts infoVals
      have HOB := Lib.hid hOb
      have HLB := Lib.hid hLb
      have HBB := Lib.hid hBb
      have HVB := Lib.hid hvb
      have q0 := cell_of_row wr (w.heap.size + 2) 0 _ _ (0, 0) hvb
      have q1 := cell_of_row wr (w.heap.size + 2) 1 _ _ (0, 0) hvb
      change wr.cell? _ = some (.int .i64 i) at q0
      change wr.cell? _ = some (.slice Ab i cb) at q1
      clear hvb hOb hLb hBb
      obtain ⟨O1, hO1⟩ : ∃ O1 : Obj, O1 = .cells #[.int .i64 i, .slice Ab i cb] 30 := ⟨_, rfl⟩
      have HOE : Hid (((wr.alloc (.cells #[.int .i64 i, .slice Ab i cb] 30)).alloc (.cells #[] 24)).ownsRow (wr.heap.size + 1) 24 1 (.slice (some ⟨wr.heap.size + 1, 0, none⟩) 0 0) 0 []) := Lib.hid (by
        have := rown_empty (wr.alloc (.cells #[.int .i64 i, .slice Ab i cb] 30))
        rwa [World.size_alloc] at this)
      have HB1 : Hid (Below wr.heap.size wr ((wr.alloc (.cells #[.int .i64 i, .slice Ab i cb] 30)).alloc (.cells #[] 24))) := Lib.hid (((Below.refl _ _).alloc (Nat.le_refl _) _).alloc (by simp) _)
      have HRD : Hid (RRead wr (.slice Ab i cb) Rb) := Lib.hid HOB.out.read
      have HSRC : Hid (Ab = none → i = 0 ∧ cb = 0) := Lib.hid (fun e => by
        rcases HOB.out.2 with ⟨h1, h2⟩ | ⟨g, c9, cur, h1, -⟩
        · simp only [Value.slice.injEq] at h1
          exact ⟨h1.2.1, h1.2.2⟩
        · rw [e] at h1; cases h1)
      have HCL : Hid (∀ j u, (Rb.map hv)[j]? = some u → ∀ p, Ab = some p → ((wr.alloc (.cells #[.int .i64 i, .slice Ab i cb] 30)).alloc (.cells #[] 24)).cell? (p.add j) = some u) := Lib.hid (fun j u hu p hp => by
        obtain ⟨A9, c9, e9, -, h9⟩ := HRD.out
        have hj : j < Rb.length := by
          have := (List.getElem?_eq_some_iff.1 hu).1
          simpa using this
        obtain ⟨ad, e, h2, h3⟩ := h9 j hj
        simp only [Value.slice.injEq] at e9
        obtain rfl : p = ad := by rw [← e9.1, hp] at e; simpa using e
        rw [HB1.out.cell (by rw [block_of_add]; exact h2), h3, ← hu, List.getElem?_map, List.getElem?_eq_getElem hj]
        rfl)
      have HLN : Hid ((Rb.map hv).length = i * 1) := Lib.hid (by rw [List.length_map, HLB.out.len, Nat.mul_one])
      clear hO1 O1
      have y1 : ((wr.alloc (.cells #[.int .i64 i, .slice Ab i cb] 30)).alloc (.cells #[] 24)).cell? ⟨w.heap.size + 1 + 1, 1, none⟩ = some (.slice Ab i cb) := (HB1.out.cell (p := ⟨w.heap.size + 1 + 1, 1, none⟩) (World.block_lt_of_cell? _ _ q1)).trans q1
      go_wp2_with (at_builtin; go_loud (refine wpList_append_src rfl _ _ 22 rfl (wr.heap.size + 1) 24 i0 _ 1 24 Tryz.underlying22 hi0 hy1 hy2 hy3 rfl (by omega) (.slice (some ⟨wr.heap.size + 1, 0, none⟩) 0 0) 0 [] rfl HOE.out Ab i cb (Rb.map hv) rfl HSRC.out HLN.out HCL.out (hv_one Rb) (by unfold maxLen; omega) (by omega) (by simp) ?_))
      intro v3 w3 hown3 hgrow3
      replace hown3 : w3.ownsRow (wr.heap.size + 1) 24 1 v3 i (Rb.map hv) := by simpa using hown3
      obtain ⟨A3, c3, rfl⟩ : ∃ A3 c3, v3 = .slice A3 i c3 := by
        rcases hown3.2 with ⟨rfl, h0⟩ | ⟨g, c9, cur, rfl, -⟩
        · exact ⟨none, 0, by rw [h0]⟩
        · exact ⟨_, _, rfl⟩
      have hsa : ((wr.alloc (.cells #[.int .i64 i, .slice Ab i cb] 30)).alloc (.cells #[] 24)).heap.size = wr.heap.size + 2 := by simp
      have HB3 : Hid (Below wr.heap.size wr w3) := Lib.hid (HB1.out.grown hgrow3 (by omega) (fun q hq => by simp [Value.ownBlock] at hq; omega))
      have hcb : w3.heap[wr.heap.size]? = some (.cells #[.int .i64 i, .slice Ab i cb] 30 (0, 0)) := (hgrow3.block _ (by omega) (by simp [Value.ownBlock])).trans ((Below.heap_alloc _ _ _ (by simp)).trans (heap_alloc_new wr _))
      have kf3 := Lib.frozen_of_heap hcb 1
      have yc := cell_of_row w3 wr.heap.size 1 _ _ (0, 0) hcb
      change w3.cell? _ = some (.slice Ab i cb) at yc
      obtain ⟨w4, hw4⟩ : ∃ w4, w4 = w3.setCell ⟨wr.heap.size, 1, none⟩ (.slice A3 i c3) := ⟨_, rfl⟩
      have hs34 : w4.heap.size = w3.heap.size := by rw [hw4]; simp [World.setCell]
      have HB4 : Hid (Below wr.heap.size wr w4) := Lib.hid (by rw [hw4]; exact HB3.out.setCell (p := ⟨wr.heap.size, 1, none⟩) (Nat.le_refl _) _)
      have hcb4 : w4.heap[wr.heap.size]? = some (.cells #[.int .i64 i, .slice A3 i c3] 30 (0, 0)) := by rw [hw4]; simp [World.setCell, Array.getElem?_modify, hcb]
      have hown4 : w4.ownsRow (wr.heap.size + 1) 24 1 (.slice A3 i c3) i (Rb.map hv) := by
        obtain ⟨h1, h2⟩ := hown3
        refine ⟨h1, ?_⟩
        rcases h2 with h0 | ⟨g, c9, cur, e, hg, hh, r1⟩
        · exact .inl h0
        · exact .inr ⟨g, c9, cur, e, hg, by rw [hw4]; exact (Below.heap_setCell _ _ _ g (show g ≠ wr.heap.size by omega)).trans hh, r1⟩
      have HO4 : Hid (∀ w', Below w4.heap.size w4 w' → w'.ownsRow (wr.heap.size + 1) 24 1 (.slice A3 i c3) i (Rb.map hv)) := Lib.hid (fun w' hb' => by
        obtain ⟨h1, h2⟩ := hown4
        refine ⟨h1, ?_⟩
        rcases h2 with h0 | ⟨g, c9, cur, e, hg, hh, r1⟩
        · exact .inl h0
        · exact .inr ⟨g, c9, cur, e, hg, (hb'.block g (Array.getElem?_eq_some_iff.1 hh).1).trans hh, r1⟩)
      have HCB4 := Lib.hid hcb4
      have HGE : Hid (wr.heap.size + 1 ≤ w4.heap.size) := Lib.hid (by have := hgrow3.size; omega)
      have x1 := cell_of_row w4 wr.heap.size 1 _ _ (0, 0) hcb4
      change w4.cell? _ = some (.slice A3 i c3) at x1
      clear hown3 hgrow3 hsa hcb4 hown4 hs34
      go_upto_region 12 with fail
      rw [← hw4]
      clear hw4 kf3 hcb y1 q1 yc
      have HB5 : Hid (Below w4.heap.size w4 ((w4.alloc (.cells #[.int .i64 1, .int .i64 77, .string ⟨#[]⟩] 26)).alloc (.cells #[.slice (some ⟨w4.heap.size, 0, none⟩) 1 1] 24))) := Lib.hid (((Below.refl _ _).alloc (Nat.le_refl _) _).alloc (by simp) _)
      have hnw : ∀ j u, [Value.slice (some ⟨w4.heap.size, 0, none⟩) 1 1][j]? = some u → ∀ p, some (⟨w4.heap.size + 1, 0, none⟩ : Addr) = some p → ((w4.alloc (.cells #[.int .i64 1, .int .i64 77, .string ⟨#[]⟩] 26)).alloc (.cells #[.slice (some ⟨w4.heap.size, 0, none⟩) 1 1] 24)).cell? (p.add j) = some u := fun j u hu p hp => by
        obtain rfl : (⟨w4.heap.size + 1, 0, none⟩ : Addr) = p := by simpa using hp
        have := heap_alloc_new (w4.alloc (.cells #[.int .i64 1, .int .i64 77, .string ⟨#[]⟩] 26)) (.cells #[.slice (some ⟨w4.heap.size, 0, none⟩) 1 1] 24)
        rw [World.size_alloc] at this
        exact World.news_of_block (cs := #[.slice (some ⟨w4.heap.size, 0, none⟩) 1 1]) (t := 24) (fr := (0, 0)) this j u hu
      have HNW := Lib.hid hnw
      have hse : ((w4.alloc (.cells #[.int .i64 1, .int .i64 77, .string ⟨#[]⟩] 26)).alloc (.cells #[.slice (some ⟨w4.heap.size, 0, none⟩) 1 1] 24)).heap.size = w4.heap.size + 2 := by simp
      have HSE := Lib.hid hse
      clear hnw hse
      go_wp2_with (at_builtin; go_loud (refine wpList_append_src rfl _ _ 22 rfl (wr.heap.size + 1) 24 i0 _ 1 24 Tryz.underlying22 hi0 hy1 hy2 hy3 rfl (by omega) (.slice A3 i c3) i (Rb.map hv) rfl (HO4.out _ HB5.out) (some ⟨w4.heap.size + 1, 0, none⟩) 1 1 [.slice (some ⟨w4.heap.size, 0, none⟩) 1 1] rfl (fun e => by cases e) rfl HNW.out (by simp [Value.oneCell']) (by unfold maxLen; omega) (by omega) (by have := HSE.out; have := HGE.out; omega) ?_))
      intro v6 w6 hown6 hgrow6
      obtain ⟨A6, c6, rfl⟩ : ∃ A6 c6, v6 = .slice A6 (i + 1) c6 := by
        rcases hown6.2 with ⟨rfl, h0⟩ | ⟨g, c9, cur, rfl, -⟩
        · exact ⟨none, 0, by rw [h0]⟩
        · exact ⟨_, _, rfl⟩
      have hne6 : ∀ q, q < wr.heap.size + 1 → some q ≠ (Value.slice A3 i c3).ownBlock := fun q hq e => by
        rcases (HO4.out _ (Below.refl _ _)).2 with ⟨h1, -⟩ | ⟨g, c9, cur, h1, h2, -⟩
        · rw [h1] at e; simp [Value.ownBlock] at e
        · rw [h1] at e; simp [Value.ownBlock] at e; omega
      have hcb6 : w6.heap[wr.heap.size]? = some (.cells #[.int .i64 i, .slice A3 i c3] 30 (0, 0)) := (hgrow6.block _ (by have := HSE.out; have := HGE.out; omega) (hne6 _ (by omega))).trans ((HB5.out.block _ (by have := HGE.out; omega)).trans HCB4.out)
      have kf6 := Lib.frozen_of_heap hcb6 1
      have yc6 := cell_of_row w6 wr.heap.size 1 _ _ (0, 0) hcb6
      change w6.cell? _ = some (.slice A3 i c3) at yc6
      obtain ⟨w7, hw7⟩ : ∃ w7, w7 = w6.setCell ⟨wr.heap.size, 1, none⟩ (.slice A6 (i + 1) c6) := ⟨_, rfl⟩
      have HB7 : Hid (Below wr.heap.size wr w7) := Lib.hid (by
        rw [hw7]
        refine ((HB4.out.trans (HB5.out.mono (by have := HGE.out; omega))).grown hgrow6 (by have := HSE.out; have := HGE.out; omega) (fun q hq => ?_)).setCell (p := ⟨wr.heap.size, 1, none⟩) (Nat.le_refl _) _
        rcases Nat.lt_or_ge q (wr.heap.size + 1) with h9 | h9
        · exact absurd hq.symm (hne6 q h9)
        · omega)
      have hs67 : w7.heap.size = w6.heap.size := by rw [hw7]; simp [World.setCell]
      have hcb7 : w7.heap[wr.heap.size]? = some (.cells #[.int .i64 i, .slice A6 (i + 1) c6] 30 (0, 0)) := by rw [hw7]; simp [World.setCell, Array.getElem?_modify, hcb6]
      have hba : W.heap[w.heap.size + 1]? = some (.cells #[.int .i64 i, .slice A i cap] 30 (0, 0)) := by
        rw [HWW.out]
        have h1 := heap_alloc_new (w.alloc (.cells #[c0, c1, c2, c3', c4, c5, c6', c7, c8, c9, c10, c11] 28)) (.cells #[.int .i64 i, .slice A i cap] 30)
        rw [World.size_alloc] at h1
        exact (Below.heap_alloc _ _ _ (by simp)).trans h1
      have hbs : W.heap[w.heap.size]? = some (.cells #[c0, c1, c2, c3', c4, c5, c6', c7, c8, c9, c10, c11] 28 (0, 0)) := by
        rw [HWW.out]
        exact (Below.heap_alloc _ _ _ (by simp; omega)).trans ((Below.heap_alloc _ _ _ (by simp)).trans (heap_alloc_new w _))
      have HCL : Hid (∀ w', Below w7.heap.size w7 w' → w'.cell? ⟨w.heap.size + 1, 0, none⟩ = some (.int .i64 i) ∧ w'.cell? ⟨w.heap.size + 1, 1, none⟩ = some (.slice A i cap) ∧ w'.cell? ⟨w.heap.size + 1 + 1, 0, none⟩ = some (.int .i64 i) ∧ w'.cell? ⟨w.heap.size + 1 + 1, 1, none⟩ = some (.slice Ab i cb) ∧ w'.cell? ⟨wr.heap.size, 0, none⟩ = some (.int .i64 i) ∧ w'.cell? ⟨wr.heap.size, 1, none⟩ = some (.slice A6 (i + 1) c6)) := Lib.hid (fun w' hb' => by
        have g1 := HB7.out.size
        have g2 := HBB.out.size
        have g3 := HW.out
        have e1 : w'.heap[w.heap.size + 1]? = some (.cells #[.int .i64 i, .slice A i cap] 30 (0, 0)) := (hb'.block _ (by omega)).trans ((HB7.out.block _ (by omega)).trans ((HBB.out.block _ (by omega)).trans hba))
        have e2 : w'.heap[w.heap.size + 2]? = some (.cells #[.int .i64 i, .slice Ab i cb] 30 (0, 0)) := (hb'.block _ (by omega)).trans ((HB7.out.block _ (by omega)).trans HVB.out)
        have e3 : w'.heap[wr.heap.size]? = some (.cells #[.int .i64 i, .slice A6 (i + 1) c6] 30 (0, 0)) := (hb'.block _ (Array.getElem?_eq_some_iff.1 hcb7).1).trans hcb7
        exact ⟨cell_of_row w' _ 0 _ _ (0, 0) e1, cell_of_row w' _ 1 _ _ (0, 0) e1, cell_of_row w' _ 0 _ _ (0, 0) e2, cell_of_row w' _ 1 _ _ (0, 0) e2, cell_of_row w' _ 0 _ _ (0, 0) e3, cell_of_row w' _ 1 _ _ (0, 0) e3⟩)
      have hS7 : w7.heap[w.heap.size]? = some (.cells #[c0, c1, c2, c3', c4, c5, c6', c7, c8, c9, c10, c11] 28 (0, 0)) := by
        have g2 := HBB.out.size
        have g3 := HW.out
        exact (HB7.out.block _ (by omega)).trans ((HBB.out.block _ (by omega)).trans hbs)
      have z0 := cell_of_row w7 w.heap.size 0 _ _ (0, 0) hS7
      have z1 := cell_of_row w7 w.heap.size 1 _ _ (0, 0) hS7
      have z2 := cell_of_row w7 w.heap.size 2 _ _ (0, 0) hS7
      have z3 := cell_of_row w7 w.heap.size 3 _ _ (0, 0) hS7
      have z4 := cell_of_row w7 w.heap.size 4 _ _ (0, 0) hS7
      have z5 := cell_of_row w7 w.heap.size 5 _ _ (0, 0) hS7
      have z6 := cell_of_row w7 w.heap.size 6 _ _ (0, 0) hS7
      have z7 := cell_of_row w7 w.heap.size 7 _ _ (0, 0) hS7
      have z8 := cell_of_row w7 w.heap.size 8 _ _ (0, 0) hS7
      have z9 := cell_of_row w7 w.heap.size 9 _ _ (0, 0) hS7
      have z10 := cell_of_row w7 w.heap.size 10 _ _ (0, 0) hS7
      have z11 := cell_of_row w7 w.heap.size 11 _ _ (0, 0) hS7
      have HWB : Hid (∀ w', Below w7.heap.size w7 w' → Below w.heap.size w w') := Lib.hid (fun w' hb' => by
        have g1 := HB7.out.size
        have g2 := HBB.out.size
        have g3 := HW.out
        exact HBW.out.trans (((HBB.out.trans (HB7.out.mono (by omega))).trans (hb'.mono (by omega))).mono (by omega)))
      have HRB : Hid (∀ w', Below w7.heap.size w7 w' → Below wr.heap.size wr w') := Lib.hid (fun w' hb' => HB7.out.trans (hb'.mono HB7.out.size))
      have HSM : Hid (∀ w', Below w7.heap.size w7 w' → RRead w' (.slice A i cap) R ∧ RRead w' (.slice Ab i cb) Rb ∧ (∀ r ∈ R, RB w'.heap.size w' r) ∧ (∀ r ∈ Rb, RB w'.heap.size w' r)) := Lib.hid (fun w' hb' => by
        have h1 := HWB.out w' hb'
        have h2 := HRB.out w' hb'
        refine ⟨HR.out.below h1, HRD.out.below h2, fun r hr => ?_, fun r hr => ?_⟩
        · obtain ⟨a1, a2, a3⟩ := HC.out r hr
          have a4 := a1.below h1
          exact ⟨a4, fun hl ad ha => a4.blk hl ha, by omega⟩
        · obtain ⟨a1, a2⟩ := HLB.out.at_ r hr
          have a4 := a1.below h2
          exact ⟨a4, fun hl ad ha => a4.blk hl ha, a2⟩)
      have HPM : Hid ((Rb.map (·.l)).Perm (R.map (·.l))) := Lib.hid (by have h1 := HLB.out; rw [HN.out] at h1; exact h1.perm)
      have HLR : Hid (R.length * 24 ≤ 140737488355328 ∧ Rb.length * 24 ≤ 140737488355328) := Lib.hid (by have h1 := HN.out; have h2 := HLB.out.len; omega)
      have hwr1 : IntKind.i64.wrap ((i : Int) + 1) = (i : Int) + 1 := by simp [IntKind.wrap, IntKind.bits, IntKind.signed]; omega
      have hnlen : ¬ (i = i + 1) := by omega
      clear hown6 hgrow6 hne6 hcb6 hs67 hcb7 hba hbs hS7
      go_upto_region 13 with fail
      rw [← hw7]
      clear hw7 kf6 yc6 x1
      go_wp2_with fail
      refine (do_nil _ c0 c1 c2 c3' c4 c5 c6' c7 c8 c9 c10 c11).mono ?_
      rintro e w8 ⟨rfl, hB8⟩
      have HB8 := Lib.hid hB8
      clear z0 z1 z2 z3 z4 z5 z6 z7 z8 z9 z10 z11 hB8
      go_wp2_with fail
      refine (rows_nil _ _).mono ?_
      rintro e w9 ⟨rfl, rfl⟩
      go_wp2_with fail
      refine (HAW.out _).mono ?_
      rintro e w10 ⟨rfl, hB10⟩
      have HA0 : Hid (Below w7.heap.size w7 w10) := Lib.hid (HB8.out.trans ((((Below.refl w8.heap.size w8).alloc (Nat.le_refl _) _).trans (hB10.mono (by simp))).mono HB8.out.size))
      clear hB10
      obtain ⟨x0, x1, x2, x3, x4, x5⟩ := HCL.out _ HA0.out
      go_wp2_with fail
      obtain ⟨r1, r2, r3, r4⟩ := HSM.out _ HA0.out
      refine (same_true r1 r2 r3 r4 HPM.out.symm HLR.out.1).mono ?_
      clear r1 r2 r3 r4 x0 x1 x2 x3 x4 x5
      rintro e w11 ⟨rfl, hB11⟩
      have HA1 : Hid (Below w7.heap.size w7 w11) := Lib.hid (HA0.out.trans (hB11.mono HA0.out.size))
      clear hB11
      obtain ⟨x0, x1, x2, x3, x4, x5⟩ := HCL.out _ HA1.out
      go_wp2_with fail
      obtain ⟨r1, r2, r3, r4⟩ := HSM.out _ HA1.out
      refine (same_true r2 r1 r4 r3 HPM.out HLR.out.2).mono ?_
      clear r1 r2 r3 r4 x0 x1 x2 x3 x4 x5
      rintro e w12 ⟨rfl, hB12⟩
      have HA2 : Hid (Below w7.heap.size w7 w12) := Lib.hid (HA1.out.trans (hB12.mono HA1.out.size))
      clear hB12
      obtain ⟨x0, x1, x2, x3, x4, x5⟩ := HCL.out _ HA2.out
      go_wp2_with fail
      refine (same_len hnlen _).mono ?_
      clear x0 x1 x2 x3 x4 x5
      rintro e w13 ⟨rfl, hB13⟩
      have HA3 : Hid (Below w7.heap.size w7 w13) := Lib.hid (HA2.out.trans (hB13.mono HA2.out.size))
      clear hB13
      obtain ⟨x0, x1, x2, x3, x4, x5⟩ := HCL.out _ HA3.out
      go_wp2_with fail
      refine (same_count (show (i : Int) ≠ (i : Int) + 1 by omega) _).mono ?_
      clear x0 x1 x2 x3 x4 x5
      rintro e w14 ⟨rfl, hB14⟩
      have HA4 : Hid (Below w7.heap.size w7 w14) := Lib.hid (HA3.out.trans (hB14.mono HA3.out.size))
      clear hB14
      go_wp2_with fail
      refine (tables_nil _).mono ?_
      rintro e w15 ⟨rfl, rfl⟩
      go_wp2_with fail
      refine (clone_nil _).mono ?_
      rintro e w16 ⟨rfl, rfl⟩
      go_wp2_with fail
      refine (one_nil _ _).mono ?_
      rintro e w17 ⟨rfl, rfl⟩
      go_wp2_with fail
      refine (serial_nil _).mono ?_
      rintro e w18 ⟨rfl, rfl⟩
      go_wp2_with fail
      go_ret
      exact ⟨rfl, HWB.out _ HA4.out⟩
end Go.Proofs.YtjonmcbglcidhaaGreat
