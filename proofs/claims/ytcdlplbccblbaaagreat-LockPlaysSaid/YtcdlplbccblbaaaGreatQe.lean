import Derived.Test.YtcdlplbccblbaaaGreatQd
import Derived.Deep.DeepCutAuto
import Derived.Deep.CutBlock
import Derived.Deep.Light
namespace Go.Proofs.YtcdlplbccblbaaaGreat
open Go.RowKit
set_option linter.unusedVariables false
set_option linter.unusedSimpArgs false

/-! ### The reference's table, told by names and queues alone -/
def forM (M : List (Nm × List Ak)) (tx : Int) : Option Nm := (M.find? fun p => waitsB p.2 tx).map (·.1)
def forMZ (M : List (Nm × List Ak)) (tx : Int) : Nm := (forM M tx).getD n0
def mstep (n : Nm) (l : List Ak) (s : List (Nm × List Ak) × Bool) (p : Nm × List Ak) : List (Nm × List Ak) × Bool :=
  if p.1 = n then s else if (!s.2 && ltN n p.1) = true then (s.1 ++ [(n, l)] ++ [p], true) else (s.1 ++ [p], s.2)
def withM (n : Nm) (l : List Ak) (M : List (Nm × List Ak)) : List (Nm × List Ak) :=
  if (M.foldl (mstep n l) ([], l.isEmpty)).2 = true then (M.foldl (mstep n l) ([], l.isEmpty)).1 else (M.foldl (mstep n l) ([], l.isEmpty)).1 ++ [(n, l)]
theorem forE_eq (E : List Qr) (tx : Int) : forE E tx = forM (E.map eq2) tx := by
  unfold forE forM eq2
  rw [List.find?_map]
  simp [Function.comp_def, Option.map_map]
theorem wfold_map (lr : Qr) : ∀ (E : List Qr) (s : List Qr × Bool), (((E.foldl (wstep lr) s).1.map eq2, (E.foldl (wstep lr) s).2) : List (Nm × List Ak) × Bool) = (E.map eq2).foldl (mstep lr.n lr.q) (s.1.map eq2, s.2)
  | [], s => rfl
  | e :: E, s => by
    rw [List.foldl_cons, wfold_map lr E, List.map_cons, List.foldl_cons]
    congr 1
    unfold wstep mstep
    have h1 : (eq2 e).1 = e.n := rfl
    rw [h1]
    by_cases hn : e.n = lr.n
    · rw [if_pos hn, if_pos hn]
    · rw [if_neg hn, if_neg hn]
      by_cases hb : (!s.2 && ltN lr.n e.n) = true
      · rw [if_pos hb, if_pos hb]; simp [eq2]
      · rw [if_neg hb, if_neg hb]; simp
theorem withE_map (lr : Qr) (E : List Qr) : (withE lr E).map eq2 = withM lr.n lr.q (E.map eq2) := by
  have h := wfold_map lr E ([], lr.q.isEmpty)
  simp only [List.map_nil] at h
  unfold withE withM wiK
  rw [← h]
  simp only
  split
  · rfl
  · simp [eq2]
section
variable {w : World} {v : Value} {M : List (Nm × List Ak)}
theorem RT.len {N : Nat} {E : List Qr} (h : ∀ p ∈ E.map eq2, p.2.length ≤ N) : ∀ e ∈ E, e.q.length ≤ N := fun e he => h (eq2 e) (List.mem_map_of_mem he)
theorem rqueue_m (h : RT w v M) (hq : ∀ p ∈ M, p.2.length ≤ 100000) (k o p s : Int) :
    Calls Tryz.prog 27 #[v, .agg #[.int .i64 k, .int .i64 o, .int .u32 p, .int .i64 s]] w fun e w' => ∃ v', e = .returned v' ∧ AO w' w.heap.size v' (qL M ⟨k, o, p, s⟩) ∧ Below w.heap.size w w' := by
  obtain ⟨E, rfl, h⟩ := h
  rw [← qE_eq]
  exact rqueue_any h (RT.len hq) k o p s
theorem rhas_m (h : RT w v M) (hq : ∀ p ∈ M, p.2.length ≤ 100000) (tx k o p s : Int) :
    Calls Tryz.prog 26 #[v, .int .i64 tx, .agg #[.int .i64 k, .int .i64 o, .int .u32 p, .int .i64 s]] w fun e w' => e = .returned (.int .i64 (hasQ (qL M ⟨k, o, p, s⟩) tx)) ∧ Below w.heap.size w w' := by
  obtain ⟨E, rfl, h⟩ := h
  rw [← qE_eq]
  exact rhas_any h (RT.len hq) tx k o p s
theorem rfor_m (h : RT w v M) (tx : Int) :
    Calls Tryz.prog 20 #[v, .int .i64 tx] w fun e w' =>
      e = .returned (.tuple #[.agg #[.int .i64 (forMZ M tx).kind, .int .i64 (forMZ M tx).of_, .int .u32 (forMZ M tx).page, .int .i64 (forMZ M tx).slot], .bool (forM M tx).isSome]) ∧ Below w.heap.size w w' := by
  obtain ⟨E, rfl, h⟩ := h
  have := rfor_any h tx
  unfold forZ at this
  unfold forMZ
  rw [forE_eq] at this
  exact this
theorem rwith_m {lv : Value} {l : List Ak} (h : RT w v M) (hl : AO w 0 lv l) (hlen : M.length ≤ 1000) (k o p s : Int) :
    Calls Tryz.prog 39 #[v, .agg #[.int .i64 k, .int .i64 o, .int .u32 p, .int .i64 s], lv] w fun e w' => ∃ v', e = .returned v' ∧ RT w' v' (withM ⟨k, o, p, s⟩ l M) ∧ Below w.heap.size w w' := by
  obtain ⟨E, rfl, h⟩ := h
  refine (rwith_any h hl (by simpa using hlen) k o p s).mono ?_
  rintro e w' ⟨v', rfl, hE, hB⟩
  exact ⟨v', rfl, ⟨_, withE_map _ E, hE⟩, hB⟩
end

/-! ### A place is written -/
theorem AO.put {w : World} {base g n c : Nat} {q : List Ak} (h : AO w base (.slice (some ⟨g, 0, none⟩) n c) q) {k j : Nat} (hk : k < q.length) (hj : j < 4) {a : Ak} {u : Value} (ha : av a = (av q[k]).set j u) :
    AO (w.setCell ⟨g, k * 4 + j, none⟩ u) base (.slice (some ⟨g, 0, none⟩) n c) (q.set k a) := by
  rcases h with ⟨h1, ⟨h2, _⟩ | ⟨g', cap, cur, hv, hg, hb, r1, r2, r3, r4⟩⟩
  · simp at h2
  · simp only [Value.slice.injEq, Option.some.injEq, Addr.mk.injEq, and_true] at hv
    obtain ⟨rfl, rfl, rfl⟩ := hv
    have hB : Blk w g 74 cur := hb
    refine ⟨av_len _, .inr ⟨g, c, cur.setIfInBounds (k * 4 + j) u, by simp, hg, hB.set_ _ u, by simpa using r1, r2, by simpa using r3, ?_⟩⟩
    rw [List.length_set, Array.toList_setIfInBounds, ← av_set q k j a u hk hj (by simpa [hk] using ha), ← r4]
    rw [List.take_set]
theorem AO.put4 {w : World} {base g n c : Nat} {q : List Ak} (h : AO w base (.slice (some ⟨g, 0, none⟩) n c) q) {k : Nat} (hk : k < q.length) (a : Ak) :
    AO ((((w.setCell ⟨g, k * 4, none⟩ (.int .i64 a.tx)).setCell ⟨g, k * 4 + 1, none⟩ (.int .i64 a.has)).setCell ⟨g, k * 4 + 2, none⟩ (.int .i64 a.wants)).setCell ⟨g, k * 4 + 3, none⟩ (.bool a.inst)) base (.slice (some ⟨g, 0, none⟩) n c) (q.set k a) := by
  have h1 := h.put (j := 0) hk (by omega) (a := ⟨a.tx, q[k].has, q[k].wants, q[k].inst⟩) (u := .int .i64 a.tx) (by simp [av])
  have h2 := h1.put (k := k) (j := 1) (by simpa using hk) (by omega) (a := ⟨a.tx, a.has, q[k].wants, q[k].inst⟩) (u := .int .i64 a.has) (by simp [av])
  have h3 := h2.put (k := k) (j := 2) (by simpa using hk) (by omega) (a := ⟨a.tx, a.has, a.wants, q[k].inst⟩) (u := .int .i64 a.wants) (by simp [av])
  have h4 := h3.put (k := k) (j := 3) (by simpa using hk) (by omega) (a := a) (u := .bool a.inst) (by simp [av])
  simpa using h4
theorem AO.frozen {w : World} {base g n c : Nat} {q : List Ak} (h : AO w base (.slice (some ⟨g, 0, none⟩) n c) q) (i : Nat) : w.frozen? ⟨g, i, none⟩ = false := by
  rcases h.2 with ⟨h2, _⟩ | ⟨g', cap, cur, hv, hg, hb, _⟩
  · simp at h2
  · simp only [Value.slice.injEq, Option.some.injEq, Addr.mk.injEq, and_true] at hv
    obtain ⟨rfl, rfl, rfl⟩ := hv
    have hB : Blk w g 74 cur := hb
    exact hB.frozen i

theorem src_one (w : World) (a : Ak) : SrcAt (w.alloc (.cells #[.int .i64 a.tx, .int .i64 a.has, .int .i64 a.wants, .bool a.inst] 74)) (some ⟨w.heap.size, 0, none⟩) ([a].flatMap av) := by
  intro j u hj p hp
  obtain rfl : (⟨w.heap.size, 0, none⟩ : Addr) = p := by simpa using hp
  rw [show (⟨w.heap.size, 0, none⟩ : Addr).add j = ⟨w.heap.size, j, none⟩ by unfold Addr.add; split <;> simp_all, (Blk.new w 74 _).cell j]
  have : ([a].flatMap av)[j]? = (#[.int .i64 a.tx, .int .i64 a.has, .int .i64 a.wants, .bool a.inst] : Array Value)[j]? := by simp [av]
  rw [← this]
  exact hj
theorem AO.other {w : World} {base : Nat} {v : Value} {q : List Ak} (h : AO w base v q) {k : Nat} {t : TypeId} {cs : Array Value} (hb : Blk w k t cs) (ht : t ≠ 74) : some k ≠ v.ownBlock := by
  rcases h.2 with ⟨rfl, _⟩ | ⟨g, cap, cur, rfl, _, hh, _⟩
  · simp [Value.ownBlock]
  · intro e
    obtain rfl : k = g := by simpa [Value.ownBlock] using e
    unfold Blk at hb
    rw [hb] at hh
    simp at hh
    exact ht hh.2
theorem below_set4i {w w' : World} {n : Nat} {g : Nat} (h : Below n w w') (hg : n ≤ g) (i : Nat) (y0 y1 y2 y3 : Value) : Below n w ((((w'.setCell ⟨g, i, none⟩ y0).setCell ⟨g, i + 1, none⟩ y1).setCell ⟨g, i + 2, none⟩ y2).setCell ⟨g, i + 3, none⟩ y3) :=
  (((h.setCell (p := ⟨g, i, none⟩) hg y0).setCell (p := ⟨g, i + 1, none⟩) hg y1).setCell (p := ⟨g, i + 2, none⟩) hg y2).setCell (p := ⟨g, i + 3, none⟩) hg y3
theorem Blk.set4i {w : World} {k : Nat} {t : TypeId} {cs : Array Value} (h : Blk w k t cs) {g : Nat} (hg : k ≠ g) (i : Nat) (y0 y1 y2 y3 : Value) : Blk ((((w.setCell ⟨g, i, none⟩ y0).setCell ⟨g, i + 1, none⟩ y1).setCell ⟨g, i + 2, none⟩ y2).setCell ⟨g, i + 3, none⟩ y3) k t cs :=
  (((h.far (p := ⟨g, i, none⟩) hg y0).far (p := ⟨g, i + 1, none⟩) hg y1).far (p := ⟨g, i + 2, none⟩) hg y2).far (p := ⟨g, i + 3, none⟩) hg y3

/-! ### Asking -/
def putQ (q : List Ak) (tx : Int) (x : Ak) : List Ak := match q.findIdx? fun a => a.tx == tx with
  | none => q ++ [x]
  | some i => q.set i x
/-- What asking does to a queue: had, and the queue that it leaves. -/
def askQ (q : List Ak) (tx mode : Int) (inst wt : Bool) : Bool × Option (List Ak) :=
  if jn (hasQ q tx) mode = hasQ q tx then (true, none)
  else if (!aheadS q (hasQ q tx) (idx q tx) && mayS q tx (jn (hasQ q tx) mode)) = true then (true, if inst = true then none else some (putQ q tx ⟨tx, jn (hasQ q tx) mode, 0, false⟩))
  else (false, if wt = false then none else some (putQ q tx ⟨tx, hasQ q tx, jn (hasQ q tx) mode, inst⟩))
def withO (n : Nm) (o : Option (List Ak)) (M : List (Nm × List Ak)) : List (Nm × List Ak) := match o with
  | none => M
  | some l => withM n l M
structure Ra where
  had : Bool
  err : Int
  M : List (Nm × List Ak)
def askM (M : List (Nm × List Ak)) (tx : Int) (n : Nm) (mode : Int) (inst wt : Bool) : Ra :=
  if tx < 1 ∨ isMode mode = false then ⟨false, 1, M⟩
  else if (forM M tx).isSome = true then ⟨false, 80, M⟩
  else ⟨(askQ (qL M n) tx mode inst wt).1, 0, withO n (askQ (qL M n) tx mode inst wt).2 M⟩

section
variable {w : World} {v : Value} {M : List (Nm × List Ak)}
set_option maxRecDepth 100000 in
theorem rask_bad (h : RT w v M) (tx mode k o p s : Int) (inst wt : Bool) (hbad : tx < 1 ∨ isMode mode = false) :
    Calls Tryz.prog 17 #[v, .int .i64 tx, .agg #[.int .i64 k, .int .i64 o, .int .u32 p, .int .i64 s], .int .i64 mode, .bool inst, .bool wt] w fun e w' => e = .returned (.tuple #[v, .bool false, .int .i64 1]) ∧ Below w.heap.size w w' := by
  obtain ⟨A, c, rfl⟩ := h.form
  by_cases ht : tx < 1
  · go_enter Tryz.func17, Tryz.ntmps17
    go_wp2_with fail
    go_ret3
    exact ⟨rfl, (Below.refl _ _).alloc (Nat.le_refl _) _⟩
  · have hm : isMode mode = false := by
      rcases hbad with h | h
      · exact absurd h ht
      · exact h
    go_enter Tryz.func17, Tryz.ntmps17
    go_wp2_with (go_at_call 42; refine (rmode_any _ _).mono ?_; rintro e w' ⟨rfl, rfl⟩)
    go_ret3
    exact ⟨rfl, (Below.refl _ _).alloc (Nat.le_refl _) _⟩

set_option maxRecDepth 100000 in
set_option maxHeartbeats 4000000 in
theorem rask_main (h : RT w v M) (hM : M.length ≤ 1000) (hq : ∀ p ∈ M, p.2.length ≤ 1000) (tx mode k o p s : Int) (inst wt : Bool) (ht : 1 ≤ tx) (hm : isMode mode = true) (hok : okm (hasQ (qL M ⟨k, o, p, s⟩) tx) = true) :
    Calls Tryz.prog 17 #[v, .int .i64 tx, .agg #[.int .i64 k, .int .i64 o, .int .u32 p, .int .i64 s], .int .i64 mode, .bool inst, .bool wt] w fun e w' =>
      ∃ v', e = .returned (.tuple #[v', .bool (askM M tx ⟨k, o, p, s⟩ mode inst wt).had, .int .i64 (askM M tx ⟨k, o, p, s⟩ mode inst wt).err]) ∧ RT w' v' (askM M tx ⟨k, o, p, s⟩ mode inst wt).M ∧ Below w.heap.size w w' := by
  have hql : (qL M ⟨k, o, p, s⟩).length ≤ 1000 := by
    unfold qL
    cases hf : M.find? fun x => x.1 == ⟨k, o, p, s⟩ with
    | none => simp
    | some x => exact hq x (List.mem_of_find?_eq_some hf)
  have hres : askM M tx ⟨k, o, p, s⟩ mode inst wt = if (forM M tx).isSome = true then ⟨false, 80, M⟩ else ⟨(askQ (qL M ⟨k, o, p, s⟩) tx mode inst wt).1, 0, withO ⟨k, o, p, s⟩ (askQ (qL M ⟨k, o, p, s⟩) tx mode inst wt).2 M⟩ := by
    unfold askM
    rw [if_neg (by rw [hm]; simp; omega)]
  have HRES := Lib.hid hres
  clear hres
  obtain ⟨A, c, rfl⟩ := h.form
  obtain ⟨wa, hwa⟩ : ∃ wa, wa = w.alloc (.cells #[.int .i64 k, .int .i64 o, .int .u32 p, .int .i64 s] 49) := ⟨_, rfl⟩
  have hBa : Below w.heap.size w wa := by rw [hwa]; exact (Below.refl _ _).alloc (Nat.le_refl _) _
  have hbn : Blk wa w.heap.size 49 #[.int .i64 k, .int .i64 o, .int .u32 p, .int .i64 s] := by rw [hwa]; exact Blk.new _ _ _
  have hcf := rfor_m (h.below hBa) tx
  have hrM := Lib.hid h
  cases hfor : (forM M tx).isSome with
  | true =>
    rw [hfor] at hcf
    have HR1 : Hid (askM M tx ⟨k, o, p, s⟩ mode inst wt = ⟨false, 80, M⟩) := Lib.hid (by rw [HRES.out, if_pos hfor])
    clear hfor
    go_enter Tryz.func17, Tryz.ntmps17
    go_wp2_with (go_at_call 42; refine (rmode_any _ _).mono ?_; rintro e w' ⟨rfl, rfl⟩)
    rw [← hwa]
    refine hcf.mono ?_
    rintro e w1 ⟨rfl, hB1⟩
    go_wp2_with fail
    go_ret3
    have hBw : Below w.heap.size w w1 := hBa.trans (hB1.mono hBa.size)
    rw [HR1.out]
    exact ⟨_, rfl, h.below (hBw.alloc hBw.size _), hBw.alloc hBw.size _⟩
  | false =>
    rw [hfor] at hcf
    have HR1 : Hid (askM M tx ⟨k, o, p, s⟩ mode inst wt = ⟨(askQ (qL M ⟨k, o, p, s⟩) tx mode inst wt).1, 0, withO ⟨k, o, p, s⟩ (askQ (qL M ⟨k, o, p, s⟩) tx mode inst wt).2 M⟩) := Lib.hid (by rw [HRES.out, if_neg (by rw [hfor]; simp)])
    clear hfor HRES
    go_enter Tryz.func17, Tryz.ntmps17
    go_wp2_with (go_at_call 42; refine (rmode_any _ _).mono ?_; rintro e w' ⟨rfl, rfl⟩)
    rw [← hwa]
    refine hcf.mono ?_
    rintro e w1 ⟨rfl, hB1⟩
    clear hcf
    have hBw1 : Below w.heap.size w w1 := hBa.trans (hB1.mono hBa.size)
    have hbn1 := hbn.of_block (hB1.block _ hbn.lt)
    obtain ⟨z0, z1, z2, z3, hz⟩ : ∃ z0 z1 z2 z3 : Int, forMZ M tx = ⟨z0, z1, z2, z3⟩ := ⟨_, _, _, _, rfl⟩
    rw [hz]
    obtain ⟨w2, hw2⟩ : ∃ w2, w2 = w1.alloc (.cells #[.int .i64 z0, .int .i64 z1, .int .u32 z2, .int .i64 z3] 49) := ⟨_, rfl⟩
    have hBw2 : Below w.heap.size w w2 := by rw [hw2]; exact hBw1.alloc hBw1.size _
    have hbn2 : Blk w2 w.heap.size 49 #[.int .i64 k, .int .i64 o, .int .u32 p, .int .i64 s] := by rw [hw2]; exact hbn1.alloc _
    have b0 := hbn2.cell 0
    have b1 := hbn2.cell 1
    have b2 := hbn2.cell 2
    have b3 := hbn2.cell 3
    simp at b0 b1 b2 b3
    go_upto_region 6 with fail
    rw [← hw2]
    clear hw2 hz hbn hbn1 hB1 hBw1 hwa hBa
    have hcq := rqueue_m (h.below hBw2) (fun p hp => Nat.le_trans (hq p hp) (by omega)) k o p s
    obtain ⟨q, hqd⟩ : ∃ q, q = qL M ⟨k, o, p, s⟩ := ⟨_, rfl⟩
    rw [← hqd] at hcq hql hok HR1
    clear hqd
    go_wp2_with fail
    refine hcq.mono ?_
    rintro e w3 ⟨qv, rfl, hao, hB3⟩
    clear hcq
    have hBw3 : Below w.heap.size w w3 := hBw2.trans (hB3.mono hBw2.size)
    have hbn3 := hbn2.of_block (hB3.block _ hbn2.lt)
    have hw2s := hBw2.size
    replace hao := hao.base_ hw2s
    obtain ⟨sa, sc, rfl, hs1, hs2⟩ := hao.form
    unfold maxLen at hs2
    go_wp2_with fail
    refine (rfind_any (hao.base_ (Nat.zero_le _)) tx).mono ?_
    rintro e w4 ⟨rfl, hB4⟩
    have hBw4 : Below w.heap.size w w4 := hBw3.trans (hB4.mono hBw3.size)
    have hao4 := hao.below hB4
    have hbn4 := hbn3.of_block (hB4.block _ hbn3.lt)
    clear hao hbn2 hbn3 b0 b1 b2 b3 hB4 hB3 hBw3 hw2s
    obtain ⟨at_, hat⟩ : ∃ at_, at_ = idx q tx := ⟨_, rfl⟩
    obtain ⟨hs, hhs⟩ : ∃ hs, hs = hasQ q tx := ⟨_, rfl⟩
    rw [← hat]
    rw [← hhs] at hok
    have HAT := Lib.hid hat
    have HHS := Lib.hid hhs
    clear hat hhs
    go_upto_if 48 with fail
    go_cut [19] (fun s19 wx => s19 = .int .i64 hs ∧ wx = w4)
    case first =>
      cases hf : q.findIdx? fun a => a.tx == tx with
      | none =>
        have e1 : at_ = -1 := by rw [HAT.out, idx_of_none hf]
        have e2 : hs = 0 := by rw [HHS.out]; unfold hasQ; rw [hf]
        subst e1 e2
        go_wp2_with fail
        go_meet
        exact ⟨rfl, rfl⟩
      | some i =>
        obtain ⟨hix, hil⟩ := idx_of_some hf
        have e1 : at_ = i := by rw [HAT.out, hix]
        have HE : Hid (hs = q[i].has) := Lib.hid (by rw [HHS.out]; unfold hasQ; rw [hf]; simp [List.getD, hil])
        subst e1
        obtain ⟨g, rfl, -, -, -, -, hgl, c0, c1, -⟩ := hao4.cell hil
        go_wp2_with fail
        go_meet
        exact ⟨by rw [HE.out], rfl⟩
    case rest =>
      obtain ⟨rfl, rfl⟩ := hcut
      have hwb := fun {w'} (hb : Below w.heap.size w w') => h.below hb
      have HH := Lib.hid h
      clear h
      go_wp2_with fail
      refine (rjoin_ok hs mode _ hok (by unfold okm; rw [hm]; simp)).mono ?_
      rintro e w' ⟨rfl, rfl⟩
      obtain ⟨want, hwant⟩ : ∃ want, want = jn hs mode := ⟨_, rfl⟩
      rw [← hwant]
      by_cases hwe : want = hs
      · have HR2 : Hid (askQ q tx mode inst wt = (true, none)) := Lib.hid (by unfold askQ; rw [if_pos (by rw [← HHS.out, ← hwant]; exact hwe)])
        have hbe : (want == hs) = true := by simpa using hwe
        clear hwe hwant
        go_wp2_with fail
        go_ret3
        rw [HR1.out, HR2.out]
        exact ⟨_, rfl, HH.out.below hBw4, hBw4⟩
      · have hbe : (want == hs) = false := by simpa using hwe
        have HNE : Hid (¬ jn (hasQ q tx) mode = hasQ q tx) := Lib.hid (by rw [← HHS.out, ← hwant]; exact hwe)
        have HW := Lib.hid hwant
        clear hwe hwant
        go_wp2_with fail
        go_loopw [21, 22] (fun b i wr => ∃ j : Nat, j ≤ q.length ∧ i = .int .i64 j ∧ b = .bool (aheadP q hs at_ j) ∧ Below wc.heap.size wc wr) (fun _ i _ => q.length - (intOf i).toNat)
        case atStart => exact ⟨0, Nat.zero_le _, rfl, rfl, Below.refl _ _⟩
        case round =>
          obtain ⟨j, hj, rfl, rfl, hBr⟩ := hrel
          by_cases hlt : j < q.length
          · obtain ⟨g, rfl, -, -, -, -, hgl, c0, c1, c2, -⟩ := (hao4.below hBr).cell hlt
            have HS := Lib.hid (aheadP_step (has := hs) (i := at_) hlt)
            cases hb : aheadP q hs at_ j with
            | true =>
              have HB := Lib.hid hb
              clear hb
              go_wp2_with fail
              go_roundw
              case rel => exact ⟨j + 1, by omega, by go_num, by rw [HS.out, HB.out]; rfl, hBr⟩
              case measure => simp [intOf]; omega
            | false =>
              have HB := Lib.hid hb
              clear hb
              by_cases hwz : q[j].wants = 0
              · have hwb2 : (q[j].wants != 0) = false := by simpa using hwz
                have HO : Hid (aheadOne q[j] hs at_ j = false) := Lib.hid (by simp [aheadOne, hwz])
                clear hwz
                go_wp2_with fail
                go_roundw
                case rel => exact ⟨j + 1, by omega, by go_num, by rw [HS.out, HB.out, HO.out]; rfl, hBr⟩
                case measure => simp [intOf]; omega
              · have hwb2 : (q[j].wants != 0) = true := by simpa using hwz
                cases h0 : (hs == 0) with
                | true =>
                  have HO : Hid (aheadOne q[j] hs at_ j = true) := Lib.hid (by unfold aheadOne; rw [hwb2, h0]; rfl)
                  clear hwz
                  go_wp2_with fail
                  go_roundw
                  case rel => exact ⟨j + 1, by omega, by go_num, by rw [HS.out, HB.out, HO.out]; rfl, hBr⟩
                  case measure => simp [intOf]; omega
                | false =>
                  cases h1 : (q[j].has != 0) with
                  | false =>
                    have HO : Hid (aheadOne q[j] hs at_ j = false) := Lib.hid (by unfold aheadOne; rw [hwb2, h0, h1]; rfl)
                    clear hwz
                    go_wp2_with fail
                    go_roundw
                    case rel => exact ⟨j + 1, by omega, by go_num, by rw [HS.out, HB.out, HO.out]; rfl, hBr⟩
                    case measure => simp [intOf]; omega
                  | true =>
                    have HO : Hid (aheadOne q[j] hs at_ j = decide ((j : Int) < at_)) := Lib.hid (by unfold aheadOne; rw [hwb2, h0, h1]; simp)
                    clear hwz
                    go_wp2_with fail
                    go_roundw
                    case rel => exact ⟨j + 1, by omega, by go_num, by rw [HS.out, HB.out, HO.out]; rfl, hBr⟩
                    case measure => simp [intOf]; omega
          · obtain rfl : j = q.length := by omega
            have hBwr : Below w.heap.size w wr := hBw4.trans (hBr.mono hBw4.size)
            have haor := hao4.below hBr
            have hbnr := hbn4.of_block (hBr.block _ hbn4.lt)
            have hHAD : Hid (askQ q tx mode inst wt = if (!aheadP q hs at_ q.length && mayS q tx want) = true then (true, if inst = true then none else some (putQ q tx ⟨tx, want, 0, false⟩)) else (false, if wt = false then none else some (putQ q tx ⟨tx, hs, want, inst⟩))) := Lib.hid (by
              unfold askQ
              rw [if_neg HNE.out, ← HHS.out, ← HAT.out, ← HW.out]
              rfl)
            have hnl := hbnr.lt
            have hwsr := hBwr.size
            clear hao4 hbn4 hBw4
            have hwr4 := hBr.size
            clear hwr4
            cases ha : aheadP q hs at_ q.length with
            | true =>
              have HA := Lib.hid ha
              have HF : Hid (askQ q tx mode inst wt = (false, if wt = false then none else some (putQ q tx ⟨tx, hs, want, inst⟩))) := Lib.hid (by rw [hHAD.out, ha]; rfl)
              clear ha hHAD
              obtain ⟨w5, hw5⟩ : ∃ w5, w5 = wr := ⟨_, rfl⟩
              subst hw5
              cases wt with
              | false =>
                go_wp2_with fail
                go_ret3
                rw [HR1.out, HF.out]
                exact ⟨_, rfl, HH.out.below hBwr, hBwr⟩
              | true =>
                have hBw5 := hBwr
                have hao5 := haor
                have hbn5 := hbnr
                clear hBwr haor hbnr hBr
                obtain ⟨w6, hw6⟩ : ∃ w6, w6 = (w5.alloc (.cells #[.int .i64 tx, .int .i64 hs, .int .i64 want, .bool inst] 74)) := ⟨_, rfl⟩
                have hbx : Blk w6 w5.heap.size 74 #[.int .i64 tx, .int .i64 hs, .int .i64 want, .bool inst] := by
                  rw [hw6]
                  have := (Blk.new w5 74 #[.int .i64 tx, .int .i64 hs, .int .i64 want, .bool inst])
                  simpa using this
                have hB56 : Below w5.heap.size w5 w6 := by rw [hw6]; exact ((Below.refl w5.heap.size w5).alloc (Nat.le_refl _) (.cells #[.int .i64 tx, .int .i64 hs, .int .i64 want, .bool inst] 74))
                have hBw6 : Below w.heap.size w w6 := hBw5.trans (hB56.mono hBw5.size)
                have hao6 := hao5.below hB56
                have hbn6 := hbn5.of_block (hB56.block _ hbn5.lt)
                go_upto_region 26 with fail
                rw [← hw6]
                have x0 := hbx.cell 0
                have x1 := hbx.cell 1
                have x2 := hbx.cell 2
                have x3 := hbx.cell 3
                simp at x0 x1 x2 x3
                have hxl := hbx.lt
                have hsz6 := hBw6.size
                clear hw6 hB56 hBw5 hao5 hbn5
                cases hf : q.findIdx? fun a => a.tx == tx with
                | none =>
                  have e1 : at_ = -1 := by rw [HAT.out, idx_of_none hf]
                  have HQ : Hid (askQ q tx mode inst true = (false, some (q ++ [⟨tx, hs, want, inst⟩]))) := Lib.hid (by rw [HF.out]; unfold putQ; rw [hf]; rfl)
                  have hsrc : SrcAt (w6.alloc (.cells #[.int .i64 tx, .int .i64 hs, .int .i64 want, .bool inst] 74)) (some ⟨w6.heap.size, 0, none⟩) ([(⟨tx, hs, want, inst⟩ : Ak)].flatMap av) := src_one w6 ⟨tx, hs, want, inst⟩
                  subst e1
                  clear hf
                  go_upto_region 29 with (at_builtin; refine wpList_append_ao rfl _ _ rfl w.heap.size _ q [⟨tx, hs, want, inst⟩] rfl (hao6.below ((Below.refl _ _).alloc (Nat.le_refl _) _)) (some ⟨w6.heap.size, 0, none⟩) 1 1 rfl rfl (fun h => by simp at h) hsrc (by simp; omega) (by simp; omega) ?_; intro v7 w7 hao7 hg7)
                  have hB7 : Below w.heap.size w w7 := below_grown (hBw6.alloc hsz6 (.cells #[.int .i64 tx, .int .i64 hs, .int .i64 want, .bool inst] 74)) (hao6.below ((Below.refl _ _).alloc (Nat.le_refl _) _)) hg7 (by simp; omega)
                  have hbn7 := (hbn6.alloc (.cells #[.int .i64 tx, .int .i64 hs, .int .i64 want, .bool inst] 74)).of_block (hg7.block _ (by have := hbn6.lt; simp; omega) (hao6.other hbn6 (by decide)))
                  have b0 := hbn7.cell 0
                  have b1 := hbn7.cell 1
                  have b2 := hbn7.cell 2
                  have b3 := hbn7.cell 3
                  simp at b0 b1 b2 b3
                  clear x0 x1 x2 x3
                  go_wp2_with fail
                  refine (rwith_m (HH.out.below hB7) (hao7.base_ (Nat.zero_le _)) hM k o p s).mono ?_
                  rintro e w8 ⟨v8, rfl, hRT8, hB8⟩
                  go_wp2_with fail
                  go_ret3
                  rw [HR1.out, HQ.out]
                  exact ⟨_, rfl, hRT8, hB7.trans (hB8.mono hB7.size)⟩
                | some i =>
                  obtain ⟨hix, hil⟩ := idx_of_some hf
                  have e1 : at_ = i := by rw [HAT.out, hix]
                  have HQ : Hid (askQ q tx mode inst true = (false, some (q.set i ⟨tx, hs, want, inst⟩))) := Lib.hid (by rw [HF.out]; unfold putQ; rw [hf]; rfl)
                  subst e1
                  clear hf
                  obtain ⟨g, rfl, -, -, -, hgb, hgl, c0, c1, c2, c3⟩ := hao6.cell hil
                  have f0 := hao6.frozen (i * 4)
                  have f1 := hao6.frozen (i * 4 + 1)
                  have f2 := hao6.frozen (i * 4 + 2)
                  have f3 := hao6.frozen (i * 4 + 3)
                  have hao7 := hao6.put4 hil ⟨tx, hs, want, inst⟩
                  have hB7 := below_set4i hBw6 hgb (i * 4) (.int .i64 tx) (.int .i64 hs) (.int .i64 want) (.bool inst)
                  have hbn7 := hbn6.set4i (g := g) (fun e => by
                    have := hao6.other hbn6 (by decide)
                    simp [Value.ownBlock, e] at this) (i * 4) (.int .i64 tx) (.int .i64 hs) (.int .i64 want) (.bool inst)
                  go_upto_region 29 with fail
                  clear c0 c1 c2 c3 f0 f1 f2 f3
                  simp only at hao7
                  generalize ((((w6.setCell ⟨g, i * 4, none⟩ (.int .i64 tx)).setCell ⟨g, i * 4 + 1, none⟩ (.int .i64 hs)).setCell ⟨g, i * 4 + 2, none⟩ (.int .i64 want)).setCell ⟨g, i * 4 + 3, none⟩ (.bool inst)) = w7 at hao7 hB7 hbn7 ⊢
                  have b0 := hbn7.cell 0
                  have b1 := hbn7.cell 1
                  have b2 := hbn7.cell 2
                  have b3 := hbn7.cell 3
                  simp at b0 b1 b2 b3
                  clear x0 x1 x2 x3
                  go_wp2_with fail
                  refine (rwith_m (HH.out.below hB7) (hao7.base_ (Nat.zero_le _)) hM k o p s).mono ?_
                  rintro e w8 ⟨v8, rfl, hRT8, hB8⟩
                  go_wp2_with fail
                  go_ret3
                  rw [HR1.out, HQ.out]
                  exact ⟨_, rfl, hRT8, hB7.trans (hB8.mono hB7.size)⟩
            | false =>
              have HA := Lib.hid ha
              go_wp2_with fail
              refine (rmay_any (haor.base_ (Nat.zero_le _)) tx want).mono ?_
              rintro e w5 ⟨rfl, hB5⟩
              have hBw5 : Below w.heap.size w w5 := hBwr.trans (hB5.mono hBwr.size)
              have hao5 := haor.below hB5
              have hbn5 := hbnr.of_block (hB5.block _ hbnr.lt)
              clear hBwr haor hbnr hBr hB5
              cases hy : mayS q tx want with
              | true =>
                have HF : Hid (askQ q tx mode inst wt = (true, if inst = true then none else some (putQ q tx ⟨tx, want, 0, false⟩))) := Lib.hid (by rw [hHAD.out, ha, hy]; rfl)
                clear ha hHAD hy
                cases inst with
                | true =>
                  go_wp2_with fail
                  go_ret3
                  rw [HR1.out, HF.out]
                  exact ⟨_, rfl, HH.out.below hBw5, hBw5⟩
                | false =>
                  obtain ⟨w6, hw6⟩ : ∃ w6, w6 = (w5.alloc (.cells #[.int .i64 tx, .int .i64 want, .int .i64 0, .bool false] 74)) := ⟨_, rfl⟩
                  have hbx : Blk w6 w5.heap.size 74 #[.int .i64 tx, .int .i64 want, .int .i64 0, .bool false] := by
                    rw [hw6]
                    have := (Blk.new w5 74 #[.int .i64 tx, .int .i64 want, .int .i64 0, .bool false])
                    simpa using this
                  have hB56 : Below w5.heap.size w5 w6 := by rw [hw6]; exact ((Below.refl w5.heap.size w5).alloc (Nat.le_refl _) (.cells #[.int .i64 tx, .int .i64 want, .int .i64 0, .bool false] 74))
                  have hBw6 : Below w.heap.size w w6 := hBw5.trans (hB56.mono hBw5.size)
                  have hao6 := hao5.below hB56
                  have hbn6 := hbn5.of_block (hB56.block _ hbn5.lt)
                  go_upto_region 26 with fail
                  rw [← hw6]
                  have x0 := hbx.cell 0
                  have x1 := hbx.cell 1
                  have x2 := hbx.cell 2
                  have x3 := hbx.cell 3
                  simp at x0 x1 x2 x3
                  have hxl := hbx.lt
                  have hsz6 := hBw6.size
                  clear hw6 hB56 hBw5 hao5 hbn5
                  cases hf : q.findIdx? fun a => a.tx == tx with
                  | none =>
                    have e1 : at_ = -1 := by rw [HAT.out, idx_of_none hf]
                    have HQ : Hid (askQ q tx mode false wt = (true, some (q ++ [⟨tx, want, 0, false⟩]))) := Lib.hid (by rw [HF.out]; unfold putQ; rw [hf]; rfl)
                    have hsrc : SrcAt (w6.alloc (.cells #[.int .i64 tx, .int .i64 want, .int .i64 0, .bool false] 74)) (some ⟨w6.heap.size, 0, none⟩) ([(⟨tx, want, 0, false⟩ : Ak)].flatMap av) := src_one w6 ⟨tx, want, 0, false⟩
                    subst e1
                    clear hf
                    go_upto_region 29 with (at_builtin; refine wpList_append_ao rfl _ _ rfl w.heap.size _ q [⟨tx, want, 0, false⟩] rfl (hao6.below ((Below.refl _ _).alloc (Nat.le_refl _) _)) (some ⟨w6.heap.size, 0, none⟩) 1 1 rfl rfl (fun h => by simp at h) hsrc (by simp; omega) (by simp; omega) ?_; intro v7 w7 hao7 hg7)
                    have hB7 : Below w.heap.size w w7 := below_grown (hBw6.alloc hsz6 (.cells #[.int .i64 tx, .int .i64 want, .int .i64 0, .bool false] 74)) (hao6.below ((Below.refl _ _).alloc (Nat.le_refl _) _)) hg7 (by simp; omega)
                    have hbn7 := (hbn6.alloc (.cells #[.int .i64 tx, .int .i64 want, .int .i64 0, .bool false] 74)).of_block (hg7.block _ (by have := hbn6.lt; simp; omega) (hao6.other hbn6 (by decide)))
                    have b0 := hbn7.cell 0
                    have b1 := hbn7.cell 1
                    have b2 := hbn7.cell 2
                    have b3 := hbn7.cell 3
                    simp at b0 b1 b2 b3
                    clear x0 x1 x2 x3
                    go_wp2_with fail
                    refine (rwith_m (HH.out.below hB7) (hao7.base_ (Nat.zero_le _)) hM k o p s).mono ?_
                    rintro e w8 ⟨v8, rfl, hRT8, hB8⟩
                    go_wp2_with fail
                    go_ret3
                    rw [HR1.out, HQ.out]
                    exact ⟨_, rfl, hRT8, hB7.trans (hB8.mono hB7.size)⟩
                  | some i =>
                    obtain ⟨hix, hil⟩ := idx_of_some hf
                    have e1 : at_ = i := by rw [HAT.out, hix]
                    have HQ : Hid (askQ q tx mode false wt = (true, some (q.set i ⟨tx, want, 0, false⟩))) := Lib.hid (by rw [HF.out]; unfold putQ; rw [hf]; rfl)
                    subst e1
                    clear hf
                    obtain ⟨g, rfl, -, -, -, hgb, hgl, c0, c1, c2, c3⟩ := hao6.cell hil
                    have f0 := hao6.frozen (i * 4)
                    have f1 := hao6.frozen (i * 4 + 1)
                    have f2 := hao6.frozen (i * 4 + 2)
                    have f3 := hao6.frozen (i * 4 + 3)
                    have hao7 := hao6.put4 hil ⟨tx, want, 0, false⟩
                    have hB7 := below_set4i hBw6 hgb (i * 4) (.int .i64 tx) (.int .i64 want) (.int .i64 0) (.bool false)
                    have hbn7 := hbn6.set4i (g := g) (fun e => by
                      have := hao6.other hbn6 (by decide)
                      simp [Value.ownBlock, e] at this) (i * 4) (.int .i64 tx) (.int .i64 want) (.int .i64 0) (.bool false)
                    go_upto_region 29 with fail
                    clear c0 c1 c2 c3 f0 f1 f2 f3
                    simp only at hao7
                    generalize ((((w6.setCell ⟨g, i * 4, none⟩ (.int .i64 tx)).setCell ⟨g, i * 4 + 1, none⟩ (.int .i64 want)).setCell ⟨g, i * 4 + 2, none⟩ (.int .i64 0)).setCell ⟨g, i * 4 + 3, none⟩ (.bool false)) = w7 at hao7 hB7 hbn7 ⊢
                    have b0 := hbn7.cell 0
                    have b1 := hbn7.cell 1
                    have b2 := hbn7.cell 2
                    have b3 := hbn7.cell 3
                    simp at b0 b1 b2 b3
                    clear x0 x1 x2 x3
                    go_wp2_with fail
                    refine (rwith_m (HH.out.below hB7) (hao7.base_ (Nat.zero_le _)) hM k o p s).mono ?_
                    rintro e w8 ⟨v8, rfl, hRT8, hB8⟩
                    go_wp2_with fail
                    go_ret3
                    rw [HR1.out, HQ.out]
                    exact ⟨_, rfl, hRT8, hB7.trans (hB8.mono hB7.size)⟩
              | false =>
                have HF : Hid (askQ q tx mode inst wt = (false, if wt = false then none else some (putQ q tx ⟨tx, hs, want, inst⟩))) := Lib.hid (by rw [hHAD.out, ha, hy]; rfl)
                clear ha hHAD hy
                cases wt with
                | false =>
                  go_wp2_with fail
                  go_ret3
                  rw [HR1.out, HF.out]
                  exact ⟨_, rfl, HH.out.below hBw5, hBw5⟩
                | true =>
                  obtain ⟨w6, hw6⟩ : ∃ w6, w6 = (w5.alloc (.cells #[.int .i64 tx, .int .i64 hs, .int .i64 want, .bool inst] 74)) := ⟨_, rfl⟩
                  have hbx : Blk w6 w5.heap.size 74 #[.int .i64 tx, .int .i64 hs, .int .i64 want, .bool inst] := by
                    rw [hw6]
                    have := (Blk.new w5 74 #[.int .i64 tx, .int .i64 hs, .int .i64 want, .bool inst])
                    simpa using this
                  have hB56 : Below w5.heap.size w5 w6 := by rw [hw6]; exact ((Below.refl w5.heap.size w5).alloc (Nat.le_refl _) (.cells #[.int .i64 tx, .int .i64 hs, .int .i64 want, .bool inst] 74))
                  have hBw6 : Below w.heap.size w w6 := hBw5.trans (hB56.mono hBw5.size)
                  have hao6 := hao5.below hB56
                  have hbn6 := hbn5.of_block (hB56.block _ hbn5.lt)
                  go_upto_region 26 with fail
                  rw [← hw6]
                  have x0 := hbx.cell 0
                  have x1 := hbx.cell 1
                  have x2 := hbx.cell 2
                  have x3 := hbx.cell 3
                  simp at x0 x1 x2 x3
                  have hxl := hbx.lt
                  have hsz6 := hBw6.size
                  clear hw6 hB56 hBw5 hao5 hbn5
                  cases hf : q.findIdx? fun a => a.tx == tx with
                  | none =>
                    have e1 : at_ = -1 := by rw [HAT.out, idx_of_none hf]
                    have HQ : Hid (askQ q tx mode inst true = (false, some (q ++ [⟨tx, hs, want, inst⟩]))) := Lib.hid (by rw [HF.out]; unfold putQ; rw [hf]; rfl)
                    have hsrc : SrcAt (w6.alloc (.cells #[.int .i64 tx, .int .i64 hs, .int .i64 want, .bool inst] 74)) (some ⟨w6.heap.size, 0, none⟩) ([(⟨tx, hs, want, inst⟩ : Ak)].flatMap av) := src_one w6 ⟨tx, hs, want, inst⟩
                    subst e1
                    clear hf
                    go_upto_region 29 with (at_builtin; refine wpList_append_ao rfl _ _ rfl w.heap.size _ q [⟨tx, hs, want, inst⟩] rfl (hao6.below ((Below.refl _ _).alloc (Nat.le_refl _) _)) (some ⟨w6.heap.size, 0, none⟩) 1 1 rfl rfl (fun h => by simp at h) hsrc (by simp; omega) (by simp; omega) ?_; intro v7 w7 hao7 hg7)
                    have hB7 : Below w.heap.size w w7 := below_grown (hBw6.alloc hsz6 (.cells #[.int .i64 tx, .int .i64 hs, .int .i64 want, .bool inst] 74)) (hao6.below ((Below.refl _ _).alloc (Nat.le_refl _) _)) hg7 (by simp; omega)
                    have hbn7 := (hbn6.alloc (.cells #[.int .i64 tx, .int .i64 hs, .int .i64 want, .bool inst] 74)).of_block (hg7.block _ (by have := hbn6.lt; simp; omega) (hao6.other hbn6 (by decide)))
                    have b0 := hbn7.cell 0
                    have b1 := hbn7.cell 1
                    have b2 := hbn7.cell 2
                    have b3 := hbn7.cell 3
                    simp at b0 b1 b2 b3
                    clear x0 x1 x2 x3
                    go_wp2_with fail
                    refine (rwith_m (HH.out.below hB7) (hao7.base_ (Nat.zero_le _)) hM k o p s).mono ?_
                    rintro e w8 ⟨v8, rfl, hRT8, hB8⟩
                    go_wp2_with fail
                    go_ret3
                    rw [HR1.out, HQ.out]
                    exact ⟨_, rfl, hRT8, hB7.trans (hB8.mono hB7.size)⟩
                  | some i =>
                    obtain ⟨hix, hil⟩ := idx_of_some hf
                    have e1 : at_ = i := by rw [HAT.out, hix]
                    have HQ : Hid (askQ q tx mode inst true = (false, some (q.set i ⟨tx, hs, want, inst⟩))) := Lib.hid (by rw [HF.out]; unfold putQ; rw [hf]; rfl)
                    subst e1
                    clear hf
                    obtain ⟨g, rfl, -, -, -, hgb, hgl, c0, c1, c2, c3⟩ := hao6.cell hil
                    have f0 := hao6.frozen (i * 4)
                    have f1 := hao6.frozen (i * 4 + 1)
                    have f2 := hao6.frozen (i * 4 + 2)
                    have f3 := hao6.frozen (i * 4 + 3)
                    have hao7 := hao6.put4 hil ⟨tx, hs, want, inst⟩
                    have hB7 := below_set4i hBw6 hgb (i * 4) (.int .i64 tx) (.int .i64 hs) (.int .i64 want) (.bool inst)
                    have hbn7 := hbn6.set4i (g := g) (fun e => by
                      have := hao6.other hbn6 (by decide)
                      simp [Value.ownBlock, e] at this) (i * 4) (.int .i64 tx) (.int .i64 hs) (.int .i64 want) (.bool inst)
                    go_upto_region 29 with fail
                    clear c0 c1 c2 c3 f0 f1 f2 f3
                    simp only at hao7
                    generalize ((((w6.setCell ⟨g, i * 4, none⟩ (.int .i64 tx)).setCell ⟨g, i * 4 + 1, none⟩ (.int .i64 hs)).setCell ⟨g, i * 4 + 2, none⟩ (.int .i64 want)).setCell ⟨g, i * 4 + 3, none⟩ (.bool inst)) = w7 at hao7 hB7 hbn7 ⊢
                    have b0 := hbn7.cell 0
                    have b1 := hbn7.cell 1
                    have b2 := hbn7.cell 2
                    have b3 := hbn7.cell 3
                    simp at b0 b1 b2 b3
                    clear x0 x1 x2 x3
                    go_wp2_with fail
                    refine (rwith_m (HH.out.below hB7) (hao7.base_ (Nat.zero_le _)) hM k o p s).mono ?_
                    rintro e w8 ⟨v8, rfl, hRT8, hB8⟩
                    go_wp2_with fail
                    go_ret3
                    rw [HR1.out, HQ.out]
                    exact ⟨_, rfl, hRT8, hB7.trans (hB8.mono hB7.size)⟩
/-- Asking the reference. -/
theorem rask_m (h : RT w v M) (hM : M.length ≤ 1000) (hq : ∀ p ∈ M, p.2.length ≤ 1000) (tx mode k o p s : Int) (inst wt : Bool) (hok : okm (hasQ (qL M ⟨k, o, p, s⟩) tx) = true) :
    Calls Tryz.prog 17 #[v, .int .i64 tx, .agg #[.int .i64 k, .int .i64 o, .int .u32 p, .int .i64 s], .int .i64 mode, .bool inst, .bool wt] w fun e w' =>
      ∃ v', e = .returned (.tuple #[v', .bool (askM M tx ⟨k, o, p, s⟩ mode inst wt).had, .int .i64 (askM M tx ⟨k, o, p, s⟩ mode inst wt).err]) ∧ RT w' v' (askM M tx ⟨k, o, p, s⟩ mode inst wt).M ∧ Below w.heap.size w w' := by
  by_cases hbad : tx < 1 ∨ isMode mode = false
  · refine (rask_bad h tx mode k o p s inst wt hbad).mono ?_
    rintro e w' ⟨rfl, hB⟩
    unfold askM
    rw [if_pos hbad]
    exact ⟨v, rfl, h.below hB, hB⟩
  · refine rask_main h hM hq tx mode k o p s inst wt (by omega) ?_ hok
    cases hi : isMode mode
    · exact absurd (.inr hi) hbad
    · rfl
end
end Go.Proofs.YtcdlplbccblbaaaGreat
