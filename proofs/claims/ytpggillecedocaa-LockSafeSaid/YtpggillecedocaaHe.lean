import Derived.Test.YtpggillecedocaaHa
namespace Go.Proofs.Ytpggillecedocaa
open Go.RowKit
set_option linter.unusedVariables false

theorem infoHeld : (Try.prog.info? 51).map (fun i => (i.zero, i.size, i.bytes)) = some (some (.agg #[.int .i64 0, .int .i64 0, .int .u32 0, .int .i64 0, .int .i64 0]), 5, 40) := by kernel_rfl
def hvs (p : Nm × Int) : List Value := [.int .i64 p.1.kind, .int .i64 p.1.of_, .int .u32 p.1.page, .int .i64 p.1.slot, .int .i64 p.2]
theorem hvs_len (l : List (Nm × Int)) : (l.flatMap hvs).length = l.length * 5 := by
  induction l with
  | nil => rfl
  | cons a l ih => simp [hvs, ih]; omega
theorem hvs_get : ∀ (l : List (Nm × Int)) (k j : Nat) (hk : k < l.length) (hj : j < 5), (l.flatMap hvs)[k * 5 + j]? = (hvs l[k])[j]?
  | a :: l, 0, j, _, hj => by
    rw [List.flatMap_cons, List.getElem?_append_left (by simp [hvs]; omega)]
    simp
  | a :: l, k + 1, j, hk, hj => by
    rw [List.flatMap_cons, List.getElem?_append_right (by simp [hvs]; omega)]
    have e : (k + 1) * 5 + j - (hvs a).length = k * 5 + j := by simp [hvs]; omega
    rw [e, hvs_get l k j (by simpa using hk) hj]
    simp
  | [], k, j, hk, _ => by simp at hk
/-- v is a row of what one has, nil if there is none. -/
def HeldAt (w : World) (base : Nat) (v : Value) (l : List (Nm × Int)) : Prop := w.ownsRow base 51 5 v l.length (l.flatMap hvs) ∧ (v = .slice none 0 0 ↔ l = [])
theorem HeldAt.cell {w : World} {base : Nat} {v : Value} {l : List (Nm × Int)} (h : HeldAt w base v l) {i : Nat} (hi : i < l.length) :
    ∃ g cap, v = .slice (some ⟨g, 0, none⟩) l.length cap ∧ l.length ≤ cap ∧ cap ≤ maxLen ∧ g < w.heap.size ∧ w.cell? ⟨g, i * 5, none⟩ = some (.int .i64 l[i].1.kind) ∧ w.cell? ⟨g, i * 5 + 1, none⟩ = some (.int .i64 l[i].1.of_) ∧ w.cell? ⟨g, i * 5 + 2, none⟩ = some (.int .u32 l[i].1.page) ∧ w.cell? ⟨g, i * 5 + 3, none⟩ = some (.int .i64 l[i].1.slot) ∧ w.cell? ⟨g, i * 5 + 4, none⟩ = some (.int .i64 l[i].2) := by
  rcases h.1.2 with ⟨_, h0⟩ | ⟨g, cap, cur, rfl, hg, hb, r1, r2, r3, r4⟩
  · omega
  · have hB : Blk w g 51 cur := hb
    have hc : ∀ j, j < 5 → w.cell? ⟨g, i * 5 + j, none⟩ = (hvs l[i])[j]? := by
      intro j hj
      rw [hB.cell]
      have h1 : (cur.toList.take (l.length * 5))[i * 5 + j]? = (l.flatMap hvs)[i * 5 + j]? := by rw [r4]
      rw [List.getElem?_take_of_lt (by omega), Array.getElem?_toList, hvs_get l i j hi hj] at h1
      exact h1
    exact ⟨g, cap, rfl, r1, r2, hB.lt, hc 0 (by omega), hc 1 (by omega), hc 2 (by omega), hc 3 (by omega), hc 4 (by omega)⟩
theorem HeldAt.form {w : World} {base : Nat} {v : Value} {l : List (Nm × Int)} (h : HeldAt w base v l) : ∃ a c, v = .slice a l.length c := by
  rcases h.1.2 with ⟨rfl, h0⟩ | ⟨g, cap, cur, rfl, _⟩
  · exact ⟨none, 0, by rw [h0]⟩
  · exact ⟨_, _, rfl⟩
theorem HeldAt.below {w w' : World} {base : Nat} {v : Value} {l : List (Nm × Int)} (h : HeldAt w base v l) (hb : Below w.heap.size w w') : HeldAt w' base v l := by
  refine ⟨⟨h.1.1, ?_⟩, h.2⟩
  rcases h.1.2 with h0 | ⟨g', cap', cur, hv, hg, hb', r1⟩
  · exact .inl h0
  · exact .inr ⟨g', cap', cur, hv, hg, (hb.block g' (Array.getElem?_eq_some_iff.1 hb').1).trans hb', r1⟩

def heldK (L : List (Nm × List Ak)) (tx : Int) (l : List Nm) : List (Nm × Int) := l.filterMap fun n => if hasQ (qL L n) tx = 0 then none else some (n, hasQ (qL L n) tx)
/-- What a transaction has, in order. -/
def held (L : List (Nm × List Ak)) (tx : Int) : List (Nm × Int) := heldK L tx (sortN (L.map (·.1)))
theorem heldK_step (L : List (Nm × List Ak)) (tx : Int) (l : List Nm) {i : Nat} (hi : i < l.length) : heldK L tx (l.take (i + 1)) = heldK L tx (l.take i) ++ (if hasQ (qL L l[i]) tx = 0 then [] else [(l[i], hasQ (qL L l[i]) tx)]) := by
  unfold heldK
  rw [List.take_succ_eq_append_getElem hi, List.filterMap_append]
  congr 1
  simp only [List.filterMap_cons, List.filterMap_nil]
  split <;> simp_all

section
variable {B : Nat} {w w' : World} {T QB WB : Nat} {L : List (Nm × List Ak)} {W : List (Int × Nm)} {R : List Row}
set_option maxRecDepth 100000 in
theorem len_ta (h : TA B w T QB WB L W) : Calls Try.prog 22 #[.pointer (some ⟨T, 0, none⟩)] w fun e w' => e = .returned (.int .i64 L.length) ∧ Below w.heap.size w w' := by
  obtain ⟨R, ht, rfl, _⟩ := h
  have t0 := ht.head.cell 0
  simp at t0
  obtain ⟨es, c, hq, hes, -⟩ := ht.qm
  have hsz : es.size = R.length := by
    have := congrArg List.length hes
    simpa using this
  have HS := Lib.hid hsz
  have hlen : ∀ ty, (Builtin.len_ #[61] ty #[.map (some QB)]).run Try.prog w = .ok (.int .i64 es.size) w := fun ty => by
    have hg := MapKept.run_getObj_map (P := Try.prog) hq
    simp [Builtin.len_, run_underlying Try.underlying61, hg, Result.andThen, goInt]
  clear hes hsz ht
  go_enter Try.func22, Try.ntmps22
  go_wp2
  go_ret
  rw [HS.out, List.length_map]
  exact ⟨rfl, by first | exact Below.refl _ _ | exact (Below.refl _ _).drew⟩

set_option maxRecDepth 100000 in
set_option maxHeartbeats 2000000 in
theorem held_ta (h : TA B w T QB WB L W) (hl : L.length ≤ 1000) (tx : Int) :
    Calls Try.prog 21 #[.pointer (some ⟨T, 0, none⟩), .int .i64 tx] w fun e w' => ∃ v, e = .returned v ∧ HeldAt w' w.heap.size v (held L tx) ∧ Below w.heap.size w w' := by
  obtain ⟨i0, hi0, hz0, hz1, hz2⟩ := info_parts infoHeld
  have h0 := h
  obtain ⟨R, ht, hm, hf⟩ := h0
  have hRl : R.length ≤ 1000 := by rw [← hm] at hl; simpa using hl
  have hnn : R.map (·.n) = L.map (·.1) := by rw [← hm, List.map_map]; rfl
  go_enter Try.func21, Try.ntmps21
  go_wp2_with fail
  refine (names_any ht (by omega)).mono ?_
  rintro e w2 ⟨nsv, rfl, hN, hb2⟩
  rw [hnn] at hN
  obtain ⟨ns, hns⟩ : ∃ ns, ns = sortN (L.map (·.1)) := ⟨_, rfl⟩
  have hnsl : ns.length = L.length := by rw [hns, sortN_len, List.length_map]
  rw [← hns] at hN
  have hheld : held L tx = heldK L tx ns := by unfold held; rw [hns]
  have HHELD := Lib.hid hheld
  clear hheld hns hnn
  have hvs : ∃ a c, nsv = .slice a ns.length c := by
    rcases hN.1.2 with ⟨e, h0⟩ | ⟨g, cap, cur, e, _⟩
    · exact ⟨none, 0, by rw [e, h0]⟩
    · exact ⟨_, cap, e⟩
  obtain ⟨na, nc, rfl⟩ := hvs
  go_wp2_with fail
  go_loopw [5, 14] (fun v j wr => ∃ i : Nat, i ≤ ns.length ∧ j = .int .i64 i ∧ Below w.heap.size w wr ∧ NamesAt wr w.heap.size (.slice na ns.length nc) ns ∧ HeldAt wr w.heap.size v (heldK L tx (ns.take i))) (fun _ j _ => ns.length - (intOf j).toNat)
  case atStart => exact ⟨0, by omega, rfl, hb2, hN, ⟨rfl, .inl ⟨rfl, rfl⟩⟩, by simp [heldK]⟩
  case round =>
    obtain ⟨i, hi, rfl, hB, hNr, hH⟩ := hrel
    by_cases hlt : i < ns.length
    · obtain ⟨gn, cn, hve, hcn1, hcn2, hgn, x0, x1, x2, x3⟩ := hNr.cell hlt
      obtain ⟨rfl, rfl⟩ : na = some ⟨gn, 0, none⟩ ∧ nc = cn := by simpa using hve
      unfold maxLen at hcn2
      have hstep := heldK_step L tx ns hlt
      have hlen : (heldK L tx (ns.take i)).length ≤ 1000 := by
        unfold heldK
        refine Nat.le_trans (List.length_filterMap_le _ _) ?_
        rw [List.length_take]; omega
      obtain ⟨n, hn⟩ : ∃ n, n = ns[i] := ⟨_, rfl⟩
      rw [← hn] at x0 x1 x2 x3 hstep
      obtain ⟨k, o, p, s⟩ := n
      have HSTEP := Lib.hid hstep
      clear hstep hn
      obtain ⟨wa, hwa⟩ : ∃ wa, wa = wr.alloc (.cells #[.int .i64 k, .int .i64 o, .int .u32 p, .int .i64 s] 34) := ⟨_, rfl⟩
      have hBa : Below wr.heap.size wr wa := by rw [hwa]; exact (Below.refl _ _).alloc (Nat.le_refl _) _
      have hbn : Blk wa wr.heap.size 34 #[.int .i64 k, .int .i64 o, .int .u32 p, .int .i64 s] := by rw [hwa]; exact Blk.new _ _ _
      have hBwa : Below w.heap.size w wa := hB.trans (hBa.mono hB.size)
      go_wp2_with fail
      rw [← hwa]
      clear hwa
      refine (has_ta (h.below hBwa) tx k o p s).mono ?_
      rintro e w3 ⟨rfl, hB3⟩
      have hBw3 : Below w.heap.size w w3 := hBwa.trans (hB3.mono hBwa.size)
      have hB13 : Below wr.heap.size wr w3 := hBa.trans (hB3.mono hBa.size)
      have hN3 : NamesAt w3 w.heap.size (.slice (some ⟨gn, 0, none⟩) ns.length nc) ns := hNr.keeps (.of_below hB13 (fun _ => False)) (fun _ _ _ h => h)
      have hH3 := hH.below hB13
      have hbn3 : Blk w3 wr.heap.size 34 #[.int .i64 k, .int .i64 o, .int .u32 p, .int .i64 s] := hbn.of_block (hB3.block _ hbn.lt)
      have b0 := hbn3.cell 0
      have b1 := hbn3.cell 1
      have b2 := hbn3.cell 2
      have b3 := hbn3.cell 3
      simp at b0 b1 b2 b3
      obtain ⟨m, hm⟩ : ∃ m, m = hasQ (qL L ⟨k, o, p, s⟩) tx := ⟨_, rfl⟩
      rw [← hm]
      have HM := Lib.hid hm
      clear hm
      by_cases hm0 : m = 0
      · have hc : (m != 0) = false := by simpa using hm0
        have HS1 : Hid (heldK L tx (ns.take (i + 1)) = heldK L tx (ns.take i)) := Lib.hid (by rw [HSTEP.out, ← HM.out, if_pos hm0, List.append_nil])
        clear hm0
        go_wp2_with fail
        go_roundw
        case rel => exact ⟨i + 1, by omega, by go_num, hBw3, hN3, by rw [HS1.out]; exact hH3⟩
        case measure => simp [intOf]; omega
      · have hc : (m != 0) = true := by simpa using hm0
        have HS1 : Hid (heldK L tx (ns.take (i + 1)) = heldK L tx (ns.take i) ++ [(⟨k, o, p, s⟩, m)]) := Lib.hid (by rw [HSTEP.out, ← HM.out, if_neg hm0])
        have hws : w.heap.size ≤ w3.heap.size := hBw3.size
        clear hm0
        go_wp2_with (at_builtin; refine wpList_append_own_at _ rfl _ _ 48 rfl w.heap.size 51 i0 _ 5 40 Try.underlying48 hi0 hz0 hz1 hz2 rfl (by decide) _ _ _ rfl (hH3.1.alloc _) ⟨w3.heap.size, 0, none⟩ 1 1 [.int .i64 k, .int .i64 o, .int .u32 p, .int .i64 s, .int .i64 m] rfl rfl (World.news_of_block (cs := #[.int .i64 k, .int .i64 o, .int .u32 p, .int .i64 s, .int .i64 m]) (t := 51) (fr := (0, 0)) (heap_alloc_new w3 _)) (by simp [Value.oneCell']) (by unfold maxLen; omega) (by omega) (by simp; omega) ?_; intro v' w8 hown8 hgr8 hnil8 _)
        have hgr9 : (w3.alloc (.cells #[.int .i64 k, .int .i64 o, .int .u32 p, .int .i64 s, .int .i64 m] 51)).grownBy w8 u5.ownBlock := hgr8
        have hB8 : Below w.heap.size w w8 := (hBw3.alloc hws _).grown hgr9 (by simp; omega) (fun kk hk => by
          rcases hH3.1.2 with ⟨e, _⟩ | ⟨g5, cap5, cur5, e, hg5, _⟩
          · rw [e] at hk; simp [Value.ownBlock] at hk
          · rw [e] at hk; simp [Value.ownBlock] at hk; omega)
        have hN8 : NamesAt w8 w.heap.size (.slice (some ⟨gn, 0, none⟩) ns.length nc) ns := by
          have ka : Keeps w3 (w3.alloc (.cells #[.int .i64 k, .int .i64 o, .int .u32 p, .int .i64 s, .int .i64 m] 51)) (fun _ => False) := .of_below ((Below.refl _ _).alloc (Nat.le_refl _) _) _
          refine (hN3.keeps ka (fun _ _ _ h => h)).keeps (.of_grown hgr9 (F := fun kk => ∃ cs, Blk (w3.alloc (.cells #[.int .i64 k, .int .i64 o, .int .u32 p, .int .i64 s, .int .i64 m] 51)) kk 51 cs) (fun kk hk => ?_)) (fun kk cs hb hx => ?_)
          · rcases (hH3.1.alloc (.cells #[.int .i64 k, .int .i64 o, .int .u32 p, .int .i64 s, .int .i64 m] 51)).2 with ⟨e, _⟩ | ⟨g5, cap5, cur5, e, hg5, hb5, _⟩
            · rw [e] at hk; simp [Value.ownBlock] at hk
            · rw [e] at hk
              obtain rfl : g5 = kk := by simpa [Value.ownBlock] using hk
              exact ⟨cur5, hb5⟩
          · obtain ⟨cs2, hb2'⟩ := hx
            unfold Blk at hb hb2'
            rw [hb] at hb2'
            simp at hb2'
        have hH8 : HeldAt w8 w.heap.size v' (heldK L tx (ns.take i) ++ [(⟨k, o, p, s⟩, m)]) := ⟨by rw [List.length_append, List.flatMap_append]; simpa [hvs] using hown8, by simpa using hnil8⟩
        go_wp2_with fail
        go_roundw
        case rel => exact ⟨i + 1, by omega, by go_num, hB8, hN8, by rw [HS1.out]; exact hH8⟩
        case measure => simp [intOf]; omega
    · obtain rfl : i = ns.length := by omega
      have HF : Hid (heldK L tx (ns.take ns.length) = heldK L tx ns) := Lib.hid (by rw [List.take_length])
      go_wp2_with fail
      go_ret
      rw [HF.out, ← HHELD.out] at hH
      exact ⟨_, rfl, hH, hB⟩
end
end Go.Proofs.Ytpggillecedocaa
