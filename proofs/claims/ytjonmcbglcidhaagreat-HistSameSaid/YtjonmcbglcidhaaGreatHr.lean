import Derived.Test.YtjonmcbglcidhaaGreatHp
import Derived.Deep.AppendLies
import Derived.Laws.AppendOwnNone
import Derived.Deep.RegionHeld3
namespace Go.Proofs.YtjonmcbglcidhaaGreat
open Go.RowKit
set_option linter.unusedVariables false
attribute [local go_sem ↓] Go.wp_at_zero Go.wp_at_succ

/-! ### Rows of values that are one's own -/
def vcells (v : V) : List Value := [.int .i64 v.kind, .int .i64 v.n, .string v.s]
theorem vc_len (l : List V) : (l.flatMap vcells).length = l.length * 3 := by
  induction l with
  | nil => rfl
  | cons a r ih => simp only [List.flatMap_cons, List.length_append, List.length_cons, ih, vcells, List.length_nil]; omega
theorem vc_get : ∀ (l : List V) (k j : Nat) (hk : k < l.length) (hj : j < 3), (l.flatMap vcells)[k * 3 + j]? = (vcells l[k])[j]?
  | a :: r, 0, j, hk, hj => by
    simp only [List.flatMap_cons, Nat.zero_mul, Nat.zero_add, List.getElem_cons_zero]
    rw [List.getElem?_append_left (by simpa [vcells] using hj)]
  | a :: r, k + 1, j, hk, hj => by
    have ih := vc_get r k j (by simpa using hk) hj
    simp only [List.flatMap_cons, List.getElem_cons_succ]
    rw [List.getElem?_append_right (by simp [vcells]; omega)]
    rw [← ih]
    congr 1
    simp [vcells]
    omega
theorem vc_one (l : List V) : ∀ u ∈ l.flatMap vcells, u.oneCell' = true := by
  intro u hu
  obtain ⟨a, _, hu⟩ := List.mem_flatMap.1 hu
  simp [vcells] at hu
  rcases hu with rfl | rfl | rfl <;> rfl
theorem add_plain' (g n : Nat) : (⟨g, 0, none⟩ : Addr).add n = ⟨g, n, none⟩ := by unfold Addr.add; split <;> simp_all

/-- Values of which one owns the row. -/
def VOwn (w : World) (t : TypeId) (B : Nat) (v : Value) (l : List V) : Prop := w.ownsRow B t 3 v l.length (l.flatMap vcells)
theorem VOwn.at_ {w : World} {t : TypeId} {B : Nat} {A : Option Addr} {n c : Nat} {l : List V} (h : VOwn w t B (.slice A n c) l) : VAt w A l := fun k hk => by
  have hc := fun j (hj : j < 3) => vc_get l k j hk hj
  obtain ⟨hl, h2⟩ := h
  rcases h2 with ⟨h2, h0⟩ | ⟨g, cap, cur, h2, hB, hh, r⟩
  · omega
  · simp only [Value.slice.injEq] at h2
    obtain ⟨rfl, rfl, rfl⟩ := h2
    have ho : w.ownsRow B t 3 (.slice (some ⟨g, 0, none⟩) l.length c) l.length (l.flatMap vcells) := ⟨hl, .inr ⟨g, c, cur, rfl, hB, hh, r⟩⟩
    have hk3 : k * 3 + 2 < l.length * 3 := by omega
    refine ⟨⟨g, 0, none⟩, rfl, lt_of_block hh, ?_, ?_, ?_⟩
    · rw [add_plain', ho.cellAt _ (by omega)]; exact hc 0 (by omega)
    · rw [add_plain']; show w.cell? ⟨g, k * 3 + 1, none⟩ = _; rw [ho.cellAt _ (by omega)]; exact hc 1 (by omega)
    · rw [add_plain']; show w.cell? ⟨g, k * 3 + 2, none⟩ = _; rw [ho.cellAt _ (by omega)]; exact hc 2 (by omega)
theorem VOwn.below {w w' : World} {t : TypeId} {B : Nat} {v : Value} {l : List V} (h : VOwn w t B v l) (hb : Below w.heap.size w w') : VOwn w' t B v l := by
  obtain ⟨hl, h2 | ⟨g, cap, cur, rfl, hg, hh, r⟩⟩ := h
  · exact ⟨hl, .inl h2⟩
  · exact ⟨hl, .inr ⟨g, cap, cur, rfl, hg, (hb.block g (lt_of_block hh)).trans hh, r⟩⟩


theorem infoVal : (Tryz.prog.info? 26).map (fun i => (i.zero, i.size, i.bytes)) = some (some (.agg #[.int .i64 0, .int .i64 0, .string ⟨#[]⟩]), 3, 32) := by kernel_rfl
theorem vown_empty (w : World) : (w.alloc (.cells #[] 26)).ownsRow w.heap.size 26 3 (.slice (some ⟨w.heap.size, 0, none⟩) 0 0) 0 [] :=
  ⟨rfl, .inr ⟨w.heap.size, 0, #[], rfl, Nat.le_refl _, heap_alloc_new w _, Nat.le_refl _, by simp, rfl, rfl⟩⟩
theorem add_step (a : Addr) (n j : Nat) (hj : 0 < j) : a.add (n + j) = ⟨(a.add n).block, (a.add n).off + j, none⟩ := by
  unfold Addr.add
  rw [if_neg (by omega)]
  split
  · rename_i h; subst h; simp
  · simp [Nat.add_assoc]
theorem VAt.reads {w : World} {A : Option Addr} {l : List V} (h : VAt w A l) (j : Nat) (u : Value) (hu : (l.flatMap vcells)[j]? = some u) (p : Addr) (hp : A = some p) : w.cell? (p.add j) = some u := by
  have hj : j < l.length * 3 := by
    have := (List.getElem?_eq_some_iff.1 hu).1
    rw [vc_len] at this
    exact this
  have hk : j / 3 < l.length := by omega
  have he : j = j / 3 * 3 + j % 3 := by omega
  obtain ⟨ad, ha⟩ := h (j / 3) hk
  obtain rfl : p = ad := by rw [hp] at ha; simpa using ha.at_
  have c0 := ha.c0
  have c1 := ha.c1
  have c2 := ha.c2
  rw [he, vc_get l (j / 3) (j % 3) hk (by omega)] at hu
  have h3 : j % 3 = 0 ∨ j % 3 = 1 ∨ j % 3 = 2 := by omega
  rw [he]
  rcases h3 with e | e | e <;> rw [e] at hu ⊢ <;> simp [vcells] at hu <;> subst hu
  · simpa using c0
  · rw [add_step _ _ 1 (by omega)]; exact c1
  · rw [add_step _ _ 2 (by omega)]; exact c2

/-- A step of a region that draws: an append to a row of the call's own, of whatever lies at an address, or of nothing. -/
theorem step_append_src {P : Program} {w : World} {ops : Array Oper} {o : Oper} {a : Act} {K : Act → World → Prop} {Q : Exit → Act → World → Prop} {E : Prop} (hgd : o.guard = none) (s x : Operand) (t : TypeId)
    (ho : o.op = .call { callee := .builtin .append, args := #[s, x], argTypes := #[t, t] })
    (base : Nat) (e : TypeId) (i : TypeInfo) (z : Value) (size bytes : Nat) (ht : P.underlying t = some (.slice e)) (hi : P.info? e = some i) (hz : i.zero = some z)
    (hsize : i.size = size) (hby : i.bytes = bytes) (hzs : z.cells.size = size) (hsz : 0 < size)
    (v : Value) (n : Nat) (xs : List Value) (hs : a.eval s = v) (hown : w.ownsRow base e size v n xs)
    (sa : Option Addr) (m c : Nat) (news : List Value) (hx : a.eval x = .slice sa m c) (hsrc : sa = none → m = 0 ∧ c = 0) (hl : news.length = m * size)
    (hnews : ∀ j u, news[j]? = some u → ∀ p, sa = some p → w.cell? (p.add j) = some u) (h1 : ∀ u ∈ news, u.oneCell' = true)
    (h63 : n + m ≤ maxLen) (hbytes : (n + m) * bytes ≤ 140737488355328) (hbase : base ≤ w.heap.size)
    (h : ∀ v' w', w'.ownsRow base e size v' (n + m) (xs ++ news) → w.grownBy w' v.ownBlock → K (a.put o.dst v') w') :
    if Region.wanted o (yielded ops a.tmps) = true then Oper.wp P o a w K Q else E := by
  have hw : Region.wanted o (yielded ops a.tmps) = true := by simp [Region.wanted, hgd]
  rw [if_pos hw]
  cases sa with
  | none =>
    obtain ⟨rfl, rfl⟩ := hsrc rfl
    have hn : news = [] := List.length_eq_zero_iff.1 (by simpa using hl)
    subst hn
    have hrun := run_append_owned_none (P := P) (w := w) base t o.type e i size ht hi v n xs hown
    unfold Oper.wp
    simp [execOp, ho, resolve, invoke, builtin, hs, hx, hrun, Result.andThen, Oper.upon]
    exact h v w (by simpa using hown) (World.grownBy.refl _ _)
  | some p =>
    obtain ⟨v', w', hr, h2, h3, h4, h5⟩ := run_append_own_at (P := P) w base t o.type e i z size bytes ht hi hz hsize hby hzs hsz v n xs hown p m c news hl (fun j u hu => hnews j u hu p rfl) h1 h63 hbytes hbase
    unfold Oper.wp execOp
    simp only [ho, resolve, invoke, builtin, Sem.run_bind, Sem.run_pure, Result.andThen_ok, List.map_toArray, List.map_cons, List.map_nil, hs, hx, hr, Oper.upon]
    exact h v' w' h2 h3
/-- The same in a region without an order of its own. -/
theorem wpList_append_src {P : Program} {w : World} {ops : Array Oper} {rest : List Oper} {o : Oper} {a : Act} {Q : Exit → Act → World → Prop} (hgd : o.guard = none) (s x : Operand) (t : TypeId)
    (ho : o.op = .call { callee := .builtin .append, args := #[s, x], argTypes := #[t, t] })
    (base : Nat) (e : TypeId) (i : TypeInfo) (z : Value) (size bytes : Nat) (ht : P.underlying t = some (.slice e)) (hi : P.info? e = some i) (hz : i.zero = some z)
    (hsize : i.size = size) (hby : i.bytes = bytes) (hzs : z.cells.size = size) (hsz : 0 < size)
    (v : Value) (n : Nat) (xs : List Value) (hs : a.eval s = v) (hown : w.ownsRow base e size v n xs)
    (sa : Option Addr) (m c : Nat) (news : List Value) (hx : a.eval x = .slice sa m c) (hsrc : sa = none → m = 0 ∧ c = 0) (hl : news.length = m * size)
    (hnews : ∀ j u, news[j]? = some u → ∀ p, sa = some p → w.cell? (p.add j) = some u) (h1 : ∀ u ∈ news, u.oneCell' = true)
    (h63 : n + m ≤ maxLen) (hbytes : (n + m) * bytes ≤ 140737488355328) (hbase : base ≤ w.heap.size)
    (h : ∀ v' w', w'.ownsRow base e size v' (n + m) (xs ++ news) → w.grownBy w' v.ownBlock → wpList P ops Q rest (a.put o.dst v') w') :
    wpList P ops Q (o :: rest) a w := by
  cases sa with
  | none =>
    obtain ⟨rfl, rfl⟩ := hsrc rfl
    have hn : news = [] := List.length_eq_zero_iff.1 (by simpa using hl)
    subst hn
    exact wpList_append_own_none hgd s x t ho base e i size ht hi v n xs hs hown hx (h v w (by simpa using hown) (World.grownBy.refl _ _))
  | some p => exact wpList_append_own_at w hgd s x t ho base e i z size bytes ht hi hz hsize hby hzs hsz v n xs hs hown p m c news hx hl (fun j u hu => hnews j u hu p rfl) h1 h63 hbytes hbase (fun v' w' h2 h3 _ _ => h v' w' h2 h3)
end Go.Proofs.YtjonmcbglcidhaaGreat
