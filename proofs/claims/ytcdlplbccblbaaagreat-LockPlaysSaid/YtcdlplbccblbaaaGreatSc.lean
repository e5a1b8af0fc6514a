import Derived.Test.YtcdlplbccblbaaaGreatMg26
namespace Go.Proofs.YtcdlplbccblbaaaGreat
open Go.RowKit
set_option linter.unusedVariables false

/-! ### Asking -/
theorem ok_cases {m : Int} (h : okMode m) : m = 0 ∨ m = 1 ∨ m = 2 ∨ m = 3 ∨ m = 4 ∨ m = 5 := by
  obtain ⟨h1, h2⟩ := h
  omega
theorem mode_ne' {m : Int} (h : isMode m = true) : m ≠ 0 := by have := ok_mode h; omega
theorem join_ne {a m : Int} (ha : okMode a) (hm : isMode m = true) : join a m ≠ 0 := by
  rcases ok_cases ha with rfl | rfl | rfl | rfl | rfl | rfl <;> rcases isMode_cases hm with rfl | rfl | rfl | rfl | rfl <;> decide
theorem join_mono {a m w : Int} (ha : okMode a) (h0 : a ≠ 0) (hm : isMode m = true) (hw : okMode w) (h : compat a w = false) : compat (join a m) w = false := by
  rcases ok_cases ha with rfl | rfl | rfl | rfl | rfl | rfl <;> rcases isMode_cases hm with rfl | rfl | rfl | rfl | rfl <;> rcases ok_cases hw with rfl | rfl | rfl | rfl | rfl | rfl <;> revert h <;> first | exact fun h => absurd rfl h0 | decide
theorem aheadP_ex {q : List Ak} {has i : Int} : ∀ k, aheadP q has i k = true → ∃ j, j < k ∧ aheadOne (q.getD j ⟨0, 0, 0, false⟩) has i j = true
  | 0, h => by simp [aheadP] at h
  | k + 1, h => by
    unfold aheadP at h
    rw [Bool.or_eq_true] at h
    rcases h with h | h
    · obtain ⟨j, h1, h2⟩ := aheadP_ex k h
      exact ⟨j, by omega, h2⟩
    · exact ⟨k, by omega, h⟩
theorem ahead_ex {q : List Ak} {has i : Int} (h : aheadS q has i = true) : ∃ (j : Nat) (hj : j < q.length), q[j].wants ≠ 0 ∧ (has = 0 ∨ (q[j].has ≠ 0 ∧ (j : Int) < i)) := by
  obtain ⟨j, hj, h1⟩ := aheadP_ex _ h
  have hg : q.getD j ⟨0, 0, 0, false⟩ = q[j] := by simp [List.getD, hj]
  rw [hg] at h1
  unfold aheadOne at h1
  simp at h1
  exact ⟨j, hj, h1.1, h1.2⟩
theorem Blocked.snoc {q : List Ak} {a x : Ak} (h : Blocked q a) : Blocked (q ++ [x]) a := by
  obtain ⟨b, hb, hne, h⟩ := h
  refine ⟨b, by simp [hb], hne, ?_⟩
  rcases h with h | ⟨h1, h | ⟨h2, h3⟩⟩
  · exact .inl h
  · exact .inr ⟨h1, .inl h⟩
  · exact .inr ⟨h1, .inr ⟨h2, h3.snoc x⟩⟩
theorem QP.snoc {q : List Ak} (h : QP q) {x : Ak} (hx : okAk x) (hno : ∀ a ∈ q, a.tx ≠ x.tx) (hc : x.has ≠ 0 → ∀ b ∈ q, b.tx ≠ x.tx → b.has ≠ 0 → compat b.has x.has = true) : QP (q ++ [x]) := by
  refine ⟨?_, h.ok.append hx, fun a ha b hb hab h1 h2 => ?_⟩
  · rw [List.map_append, List.nodup_append]
    refine ⟨h.nd, by simp, fun t ht u hu => ?_⟩
    obtain ⟨a, ha, rfl⟩ := List.mem_map.1 ht
    simp at hu
    subst hu
    exact hno a ha
  · rw [List.mem_append, List.mem_singleton] at ha hb
    rcases ha with ha | rfl
    · rcases hb with hb | rfl
      · exact h.hc a ha b hb hab h1 h2
      · exact hc h2 a ha hab h1
    · rcases hb with hb | rfl
      · rw [compat_comm]
        exact hc h1 b hb (fun e => hab e.symm) h2
      · exact absurd rfl hab

section
variable {L : List (Nm × List Ak)} {W W' : List (Int × Nm)} {n : Nm} {q' : List Ak}
/-- Another queue for a name that stands there. -/
theorem TI.put (h : TI L W nobody) (hm : n ∈ L.map (·.1)) (hq : QP q') (hl : liveQ q') (hb : ∀ a ∈ q', a.wants ≠ 0 → Blocked q' a) (ht : ∀ a ∈ q', 1 ≤ a.tx ∧ a.tx ≤ 9223372036854775807)
    (hw : ∀ t m, wOf W' t = some m ↔ waitsQ (if m = n then q' else qL L m) t) : TI (repl L n q') W' nobody := by
  have hqL := fun m => qL_repl h.nm hm q' m
  refine ⟨repl_nodup h.nm _ _, fun m => ?_, fun m => ?_, fun m => ?_, fun t m _ => ?_, fun _ h => h.elim, fun m => ?_⟩
  · rw [hqL]; split
    · exact hq
    · exact h.qp m
  · rw [hqL]; split
    · exact hl
    · exact h.live m
  · rw [hqL]; split
    · exact hb
    · exact h.blk m
  · rw [hqL]; exact hw t m
  · rw [hqL]; split
    · exact ht
    · exact h.who m
theorem TI.fresh (h : TI L W nobody) (hm : n ∉ L.map (·.1)) {x : Ak} (hx : okAk x) (hh : x.has ≠ 0) (hw : x.wants = 0) (ht : 1 ≤ x.tx ∧ x.tx ≤ 9223372036854775807) : TI (L ++ [(n, [x])]) W nobody := by
  have hqL : ∀ m, qL (L ++ [(n, [x])]) m = if m = n then [x] else qL L m := fun m => by
    rw [qL_app]
    by_cases e : m = n
    · subst e
      rw [if_neg hm, qL_cons, if_pos rfl, if_pos rfl]
    · rw [if_neg e]
      split
      · rfl
      · rename_i h1
        rw [qL_cons, if_neg e, qL_out h1]
        rfl
  have hw0 : ∀ t, ¬ waitsQ [x] t := by
    rintro t ⟨a, ha, _, h2⟩
    simp at ha
    subst ha
    exact h2 hw
  refine ⟨?_, fun m => ?_, fun m => ?_, fun m => ?_, fun t m _ => ?_, fun _ h => h.elim, fun m => ?_⟩
  · rw [List.map_append, List.nodup_append]
    refine ⟨h.nm, by simp, fun a ha b hb => ?_⟩
    simp at hb
    subst hb
    exact fun e => hm (e ▸ ha)
  · rw [hqL]; split
    · exact ⟨by simp, fun a ha => by simp at ha; exact ha ▸ hx, fun a ha b hb hab => by simp at ha hb; exact absurd (by rw [ha, hb]) hab⟩
    · exact h.qp m
  · rw [hqL]; split
    · intro a ha; simp at ha; subst ha; exact .inl hh
    · exact h.live m
  · rw [hqL]; split
    · intro a ha hwa; simp at ha; subst ha; exact absurd hw hwa
    · exact h.blk m
  · rw [hqL, h.wt t m (fun h => h)]
    split
    · rename_i e
      subst e
      rw [qL_out hm]
      constructor
      · rintro ⟨a, ha, _⟩; simp at ha
      · intro e; exact absurd e (hw0 t)
    · rfl
  · rw [hqL]; split
    · intro a ha; simp at ha; subst ha; exact ht
    · exact h.who m

theorem TI.ask (h : TI L W nobody) {tx : Int} (ht : 1 ≤ tx ∧ tx ≤ 9223372036854775807) (n : Nm) (mode : Int) (inst wt : Bool) : TI (ask L W tx n mode inst wt).L (ask L W tx n mode inst wt).W nobody := by
  unfold YtcdlplbccblbaaaGreat.ask
  split
  · exact h
  · rename_i hbad
    have hm : isMode mode = true := by
      cases hi : isMode mode
      · exact absurd (.inr hi) hbad
      · rfl
    have om : okMode mode := by obtain ⟨a, b⟩ := ok_mode hm; exact ⟨by omega, b⟩
    have o0 : okMode 0 := ⟨by omega, by omega⟩
    split
    · exact h
    · rename_i hnw
      have hwn : wOf W tx = none := by simpa using hnw
      have hno : ∀ m, ¬ waitsQ (qL L m) tx := fun m hw => by
        have := (h.wt tx m (fun h => h)).2 hw
        rw [hwn] at this
        cases this
      split
      · rename_i hf
        have hnm : n ∉ L.map (·.1) := fun hm' => by
          obtain ⟨p, hp, e⟩ := List.mem_map.1 hm'
          rw [List.find?_eq_none] at hf
          exact absurd (by simpa using e) (hf p hp)
        simp only
        split
        · exact h
        · exact h.fresh hnm ⟨om, o0⟩ (mode_ne' hm) rfl ht
      · rename_i nm q hfq
        obtain ⟨hn1, hn2, hn3⟩ := qL_find hfq
        simp only at hn1 hn2
        subst hn1
        have hq := h.qp nm
        have hlv := h.live nm
        have hbk := h.blk nm
        have hwho := h.who nm
        rw [hn2] at hq hlv hbk hwho
        have hwq : ¬ waitsQ q tx := by rw [← hn2]; exact hno nm
        have hnw0 : ∀ a ∈ q, a.tx = tx → a.wants = 0 := fun a ha e => Classical.byContradiction fun hc => hwq ⟨a, ha, e, hc⟩
        have hwS : ∀ t m, wOf W t = some m ↔ waitsQ (qL L m) t := fun t m => h.wt t m (fun h => h)
        -- what is told of who waits, where tx waits anew
        have hwW : ∀ q'', (∀ t, waitsQ q'' t ↔ waitsQ q t ∨ t = tx) → ∀ t m, wOf (W ++ [(tx, nm)]) t = some m ↔ waitsQ (if m = nm then q'' else qL L m) t := by
          intro q'' hq'' t m
          rw [wOf_snoc]
          by_cases hmn : m = nm
          · subst hmn
            rw [if_pos rfl, hq'', ← hn2, ← hwS]
            cases hwt : wOf W t with
            | some m2 =>
              simp only
              constructor
              · intro e; exact .inl e
              · rintro (e | rfl)
                · exact e
                · rw [hwn] at hwt; cases hwt
            | none =>
              simp only
              by_cases e : t = tx
              · rw [if_pos e]; simp [e]
              · rw [if_neg e]; simp [e]
          · rw [if_neg hmn, ← hwS]
            cases hwt : wOf W t with
            | some m2 => rfl
            | none =>
              simp only
              by_cases e : t = tx
              · rw [if_pos e]
                constructor
                · intro e2; exact absurd (by simpa using e2.symm) hmn
                · intro e2; cases e2
              · rw [if_neg e]
        have hwE : ∀ q'', (∀ t, waitsQ q'' t ↔ waitsQ q t) → ∀ t m, wOf W t = some m ↔ waitsQ (if m = nm then q'' else qL L m) t := by
          intro q'' hq'' t m
          rw [hwS]
          split
          · rename_i e; subst e; rw [hq'', hn2]
          · rfl
        split
        · rename_i hfi
          have hnt : ∀ a ∈ q, a.tx ≠ tx := by
            rw [List.findIdx?_eq_none_iff] at hfi
            intro a ha e
            have := hfi a ha
            simp [e] at this
          split
          · rename_i hc
            simp only [Bool.and_eq_true, Bool.not_eq_true'] at hc
            simp only
            split
            · exact h
            · refine h.put hn3 (hq.snoc ⟨om, o0⟩ hnt (fun _ b hb h1 h2 => may_true_all hc.1 b hb h1 h2)) ?_ ?_ ?_ (hwE _ fun t => ?_)
              · intro a ha
                rw [List.mem_append, List.mem_singleton] at ha
                rcases ha with ha | rfl
                · exact hlv a ha
                · exact .inl (mode_ne' hm)
              · intro a ha hw
                rw [List.mem_append, List.mem_singleton] at ha
                rcases ha with ha | rfl
                · exact (hbk a ha hw).snoc
                · exact absurd rfl hw
              · intro a ha
                rw [List.mem_append, List.mem_singleton] at ha
                rcases ha with ha | rfl
                · exact hwho a ha
                · exact ht
              · constructor
                · rintro ⟨a, ha, h1, h2⟩
                  rw [List.mem_append, List.mem_singleton] at ha
                  rcases ha with ha | rfl
                  · exact ⟨a, ha, h1, h2⟩
                  · exact absurd rfl h2
                · rintro ⟨a, ha, h1, h2⟩; exact ⟨a, by simp [ha], h1, h2⟩
          · rename_i hc
            simp only
            split
            · rename_i hwt
              exact h
            · rename_i hwt
              refine h.put hn3 (hq.snoc ⟨o0, om⟩ hnt (fun h0 => absurd rfl h0)) ?_ ?_ ?_ ?_
              · intro a ha
                rw [List.mem_append, List.mem_singleton] at ha
                rcases ha with ha | rfl
                · exact hlv a ha
                · exact .inr (mode_ne' hm)
              · intro a ha hw
                rw [List.mem_append, List.mem_singleton] at ha
                rcases ha with ha | rfl
                · exact (hbk a ha hw).snoc
                · by_cases hmay : mayS q tx mode = true
                  · have hah : aheadS q 0 (-1) = true := by
                      rw [hmay] at hc
                      simpa using hc
                    obtain ⟨j, hj, h1, _⟩ := ahead_ex hah
                    refine ⟨q[j], by simp, hnt _ (List.getElem_mem hj), .inr ⟨h1, ?_⟩⟩
                    by_cases h0 : q[j].has = 0
                    · exact .inr ⟨⟨fun e => absurd h0 e, fun e => absurd rfl e⟩, q, [⟨tx, 0, mode, inst⟩], rfl, List.getElem_mem hj, by simp⟩
                    · exact .inl ⟨h0, rfl⟩
                  · obtain ⟨b, hb, h1, h2, h3⟩ := may_false_ex (by simpa using hmay)
                    exact ⟨b, by simp [hb], h1, .inl ⟨h2, h3⟩⟩
              · intro a ha
                rw [List.mem_append, List.mem_singleton] at ha
                rcases ha with ha | rfl
                · exact hwho a ha
                · exact ht
              · refine hwW _ fun t => ?_
                constructor
                · rintro ⟨a, ha, h1, h2⟩
                  rw [List.mem_append, List.mem_singleton] at ha
                  rcases ha with ha | rfl
                  · exact .inl ⟨a, ha, h1, h2⟩
                  · exact .inr h1.symm
                · rintro (⟨a, ha, h1, h2⟩ | rfl)
                  · exact ⟨a, by simp [ha], h1, h2⟩
                  · exact ⟨⟨t, 0, mode, inst⟩, List.mem_append_right _ (List.mem_singleton.2 rfl), rfl, mode_ne' hm⟩
        · rename_i i hfi
          obtain ⟨hi, hti⟩ := find_get hfi
          have hg : q.getD i ⟨0, 0, 0, false⟩ = q[i] := by simp [List.getD, hi]
          rw [hg]
          have hoki := hq.ok _ (List.getElem_mem hi)
          have hwi : q[i].wants = 0 := hnw0 _ (List.getElem_mem hi) hti
          have hhi : q[i].has ≠ 0 := by
            rcases hlv _ (List.getElem_mem hi) with h1 | h1
            · exact h1
            · exact absurd hwi h1
          have hj0 := join_ne hoki.1 hm
          have hjo := ok_join hoki.1 hm
          obtain ⟨j, hj⟩ : ∃ j, j = join q[i].has mode := ⟨_, rfl⟩
          rw [← hj] at hj0 hjo ⊢
          split
          · exact h
          · split
            · rename_i hc
              simp only [Bool.and_eq_true, Bool.not_eq_true'] at hc
              simp only
              split
              · exact h
              · have hset := fun {b} => hq.mem_set (x := { q[i] with has := j }) (b := b) hi rfl
                refine h.put hn3 (hq.set (x := { q[i] with has := j }) hi rfl ⟨hjo, hoki.2⟩ (fun _ b hb h1 h2 => may_true_all hc.1 b hb (by rw [← hti]; exact h1) h2)) ?_ ?_ ?_ (hwE _ fun t => ?_)
                · intro a ha
                  rcases hset ha with rfl | ⟨h1, _⟩
                  · exact .inl hj0
                  · exact hlv a h1
                · intro a ha hw
                  rcases hset ha with rfl | ⟨h1, h2⟩
                  · exact absurd hwi hw
                  · obtain ⟨b, hb, hne, hbl⟩ := hbk a h1 hw
                    have hani : a ≠ q[i] := fun e => h2 (by rw [e])
                    by_cases hbi : b = q[i]
                    · subst hbi
                      refine ⟨{ q[i] with has := j }, mem_set_self' hi, hne, ?_⟩
                      rcases hbl with ⟨c1, c2⟩ | ⟨c1, _⟩
                      · refine .inl ⟨hj0, ?_⟩
                        show compat j a.wants = false
                        rw [hj]
                        exact join_mono hoki.1 hhi hm (hq.ok a h1).2 c2
                      · exact absurd hwi c1
                    · refine ⟨b, mem_set_of hi hb hbi, hne, ?_⟩
                      rcases hbl with c | ⟨c1, c | ⟨c2, c3⟩⟩
                      · exact .inl c
                      · exact .inr ⟨c1, .inl c⟩
                      · exact .inr ⟨c1, .inr ⟨c2, c3.set hi hbi hani⟩⟩
                · intro a ha
                  rcases hset ha with rfl | ⟨h1, _⟩
                  · exact hwho q[i] (List.getElem_mem hi)
                  · exact hwho a h1
                · rw [hq.set_waits (x := { q[i] with has := j }) hi rfl]
                  simp only [hwi, ne_eq, not_true_eq_false, and_false, false_or]
                  constructor
                  · exact fun e => e.2
                  · exact fun e => ⟨fun e2 => hwq (by rw [← hti, ← e2]; exact e), e⟩
            · rename_i hc
              simp only
              split
              · exact h
              · have hset := fun {b} => hq.mem_set (x := { q[i] with wants := j, inst := inst }) (b := b) hi rfl
                refine h.put hn3 (hq.set (x := { q[i] with wants := j, inst := inst }) hi rfl ⟨hoki.1, hjo⟩ (fun h0 b hb h1 h2 => hq.hc b hb q[i] (List.getElem_mem hi) h1 h2 h0)) ?_ ?_ ?_ ?_
                · intro a ha
                  rcases hset ha with rfl | ⟨h1, _⟩
                  · exact .inr hj0
                  · exact hlv a h1
                · intro a ha hw
                  rcases hset ha with rfl | ⟨h1, h2⟩
                  · by_cases hmay : mayS q tx j = true
                    · have hah : aheadS q q[i].has i = true := by
                        rw [hmay] at hc
                        simpa using hc
                      obtain ⟨k, hk, c1, c2⟩ := ahead_ex hah
                      have hki : q[k] ≠ q[i] := fun e => c1 (by rw [e]; exact hwi)
                      have htk : q[k].tx ≠ q[i].tx := fun e => hki (hq.inj (List.getElem_mem hk) (List.getElem_mem hi) e)
                      rcases c2 with c2 | ⟨c2, c3⟩
                      · exact absurd c2 hhi
                      · have hlt : k < i := by omega
                        have hkne : i ≠ k := by omega
                        have hgk : (q.set i { q[i] with wants := j, inst := inst })[k]'(by simpa using hk) = q[k] := by rw [List.getElem_set, if_neg hkne]
                        have hgi : (q.set i { q[i] with wants := j, inst := inst })[i]'(by simpa using hi) = { q[i] with wants := j, inst := inst } := by rw [List.getElem_set, if_pos rfl]
                        have hbef := Bef.get (q := q.set i { q[i] with wants := j, inst := inst }) (i := k) (j := i) (by simpa using hk) (by simpa using hi) hlt
                        rw [hgk, hgi] at hbef
                        exact ⟨q[k], mem_set_of hi (List.getElem_mem hk) hki, htk, .inr ⟨c1, .inr ⟨⟨fun _ => hhi, fun _ => c2⟩, hbef⟩⟩⟩
                    · obtain ⟨b, hb, h1, h2, h3⟩ := may_false_ex (by simpa using hmay)
                      exact ⟨b, mem_set_of hi hb (fun e => h1 (by rw [e, hti])), by rw [← hti] at h1; exact h1, .inl ⟨h2, h3⟩⟩
                  · obtain ⟨b, hb, hne, hbl⟩ := hbk a h1 hw
                    have hani : a ≠ q[i] := fun e => h2 (by rw [e])
                    by_cases hbi : b = q[i]
                    · subst hbi
                      refine ⟨{ q[i] with wants := j, inst := inst }, mem_set_self' hi, hne, ?_⟩
                      rcases hbl with c | ⟨c1, _⟩
                      · exact .inl c
                      · exact absurd hwi c1
                    · refine ⟨b, mem_set_of hi hb hbi, hne, ?_⟩
                      rcases hbl with c | ⟨c1, c | ⟨c2, c3⟩⟩
                      · exact .inl c
                      · exact .inr ⟨c1, .inl c⟩
                      · exact .inr ⟨c1, .inr ⟨c2, c3.set hi hbi hani⟩⟩
                · intro a ha
                  rcases hset ha with rfl | ⟨h1, _⟩
                  · exact hwho q[i] (List.getElem_mem hi)
                  · exact hwho a h1
                · refine hwW _ fun t => ?_
                  rw [hq.set_waits (x := { q[i] with wants := j, inst := inst }) hi rfl, hti]
                  constructor
                  · rintro (⟨e, _⟩ | ⟨_, e⟩)
                    · exact .inr e
                    · exact .inl e
                  · rintro (e | e)
                    · exact .inr ⟨fun e2 => hwq (by rw [← e2]; exact e), e⟩
                    · exact .inl ⟨e, hj0⟩
end
end Go.Proofs.YtcdlplbccblbaaaGreat
