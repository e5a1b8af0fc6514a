import Derived.Test.YtcdlplbccblbaaaGreatRows
import Derived.WalkKit
import Derived.Lib.Hide
namespace Go.Proofs.YtcdlplbccblbaaaGreat
open Go.RowKit
set_option linter.unusedVariables false

/-- A lock's name. -/
structure Nm where
  kind : Int
  of_ : Int
  page : Int
  slot : Int
deriving DecidableEq
def nv (n : Nm) : Value := .agg #[.int .i64 n.kind, .int .i64 n.of_, .int .u32 n.page, .int .i64 n.slot]

theorem nv_inj {a b : Nm} (h : nv a = nv b) : a = b := by
  obtain ⟨k, o, p, s⟩ := a
  obtain ⟨k', o', p', s'⟩ := b
  unfold nv at h
  simpa using h

theorem eq_rid (d : Nat) (p s p' s' : Int) (w : World) : (Op.equalIn (d + 2) 44 (.agg #[.int .u32 p, .int .i64 s]) (.agg #[.int .u32 p', .int .i64 s'])).run Tryz.prog w = .ok (p == p' && s == s') w := by
  rw [run_equalIn_agg w (d + 1) 44 _ _ (by kernel_rfl) (by kernel_rfl)]
  have e1 : ∀ x y, (Op.equalIn (d + 1) 42 (.int .u32 x) (.int .u32 y)).run Tryz.prog w = .ok (x == y) w := fun x y => run_equalIn_int w d 42 .u32 .u32 x y Tryz.underlying42
  have e2 : ∀ x y, (Op.equalIn (d + 1) 3 (.int .i64 x) (.int .i64 y)).run Tryz.prog w = .ok (x == y) w := fun x y => run_equalIn_int w d 3 .i64 .i64 x y Tryz.underlying3
  have f32 : (Tryz.prog.fieldsOf 44).toList = [{ name := "Page", type := 42, offset := 0, embedded := false, tag := "", pkgPath := "", byteOffset := 0 }, { name := "Slot", type := 3, offset := 1, embedded := false, tag := "", pkgPath := "", byteOffset := 8 }] := by kernel_rfl
  have p1 : ∀ x y : Value, (part 42 #[x, y] 0).run Tryz.prog w = .ok x w := fun x y => by kernel_rfl
  have p2 : ∀ x y : Value, (part 3 #[x, y] 1).run Tryz.prog w = .ok y w := fun x y => by kernel_rfl
  rw [f32]
  by_cases h1 : p = p'
  · subst h1
    by_cases h2 : s = s'
    · subst h2
      simp [Op.eqFields, e1, e2, p1, p2, Result.andThen]
    · simp [Op.eqFields, e1, e2, p1, p2, Result.andThen, h2]
  · simp [Op.eqFields, e1, p1, Result.andThen, h1]

theorem eq_name (a b : Nm) (w : World) : (Op.equal 46 (nv a) (nv b)).run Tryz.prog w = .ok (decide (a = b)) w := by
  show (Op.equalIn (9997 + 3) 46 (nv a) (nv b)).run Tryz.prog w = _
  generalize 9997 = d
  unfold nv
  rw [run_equalIn_agg w (d + 2) 46 _ _ (by kernel_rfl) (by kernel_rfl)]
  have e1 : ∀ x y, (Op.equalIn (d + 2) 3 (.int .i64 x) (.int .i64 y)).run Tryz.prog w = .ok (x == y) w := fun x y => run_equalIn_int w (d + 1) 3 .i64 .i64 x y Tryz.underlying3
  have f34 : (Tryz.prog.fieldsOf 46).toList = [{ name := "Kind", type := 3, offset := 0, embedded := false, tag := "", pkgPath := "", byteOffset := 0 },
        { name := "Of", type := 3, offset := 1, embedded := false, tag := "", pkgPath := "", byteOffset := 8 },
        { name := "RID", type := 44, offset := 2, embedded := false, tag := "", pkgPath := "", byteOffset := 16 }] := by kernel_rfl
  have p1 : ∀ x y z u : Value, (part 3 #[x, y, z, u] 0).run Tryz.prog w = .ok x w := fun x y z u => by kernel_rfl
  have p2 : ∀ x y z u : Value, (part 3 #[x, y, z, u] 1).run Tryz.prog w = .ok y w := fun x y z u => by kernel_rfl
  have p3 : ∀ x y z u : Value, (part 44 #[x, y, z, u] 2).run Tryz.prog w = .ok (.agg #[z, u]) w := fun x y z u => by kernel_rfl
  have e2 := fun p s p' s' => eq_rid d p s p' s' w
  rw [f34]
  obtain ⟨k, o, p, s⟩ := a
  obtain ⟨k', o', p', s'⟩ := b
  by_cases h1 : k = k'
  · subst h1
    by_cases h2 : o = o'
    · subst h2
      by_cases h3 : p = p'
      · subst h3
        by_cases h4 : s = s'
        · subst h4
          simp [Op.eqFields, e1, e2, p1, p2, p3, Result.andThen]
        · simp [Op.eqFields, e1, e2, p1, p2, p3, Result.andThen, h4]
      · simp [Op.eqFields, e1, e2, p1, p2, p3, Result.andThen, h3]
    · simp [Op.eqFields, e1, p1, p2, Result.andThen, h2]
  · simp [Op.eqFields, e1, p1, Result.andThen, h1]

/-- What a key type's values need of Go's own ==. -/
structure KeyEnc (P : Program) (kt : TypeId) (α : Type) where
  enc : α → Value
  inj : ∀ {a b}, enc a = enc b → a = b
  chk : ∀ e a w, (Instr.checkKey e 10000 kt (enc a)).run P w = .ok () w
  stays : ∀ a w, (Instr.keyThatStays (enc a) (enc a)).run P w = .ok (enc a) w
  find : ∀ (a : α) (es : List MapEntry) (ks : List α) (w : World), es.map (·.key) = ks.map enc →
    ((Instr.findKey kt (enc a) es).run P w = .ok none w ∧ a ∉ ks) ∨ ∃ (j : Nat) (e : MapEntry), (Instr.findKey kt (enc a) es).run P w = .ok (some (j, e.val)) w ∧ es[j]? = some e ∧ ks[j]? = some a

theorem findAsking_spec {P : Program} {kt : TypeId} {α : Type} [DecidableEq α] {enc : α → Value} (heq : ∀ a b w, (Op.equal kt (enc a) (enc b)).run P w = .ok (decide (a = b)) w) (a : α) (w : World) :
    ∀ (es : List MapEntry) (ks : List α) (i : Nat), es.map (·.key) = ks.map enc →
    ((Instr.findAsking kt (enc a) es i).run P w = .ok none w ∧ a ∉ ks) ∨ ∃ (j : Nat) (e : MapEntry), (Instr.findAsking kt (enc a) es i).run P w = .ok (some (i + j, e.val)) w ∧ es[j]? = some e ∧ ks[j]? = some a
  | [], ks, i, h => by
    cases ks with
    | nil => exact .inl ⟨rfl, by simp⟩
    | cons k ks => simp at h
  | e :: es, [], i, h => by simp at h
  | e :: es, k :: ks, i, h => by
    simp only [List.map_cons, List.cons.injEq] at h
    have hr : (Instr.findAsking kt (enc a) (e :: es) i).run P w = if a = k then .ok (some (i, e.val)) w else (Instr.findAsking kt (enc a) es (i + 1)).run P w := by
      simp only [Instr.findAsking, Sem.run_bind, h.1, heq, Result.andThen_ok]
      by_cases hk : a = k <;> simp [hk]
    by_cases hk : a = k
    · exact .inr ⟨0, e, by rw [hr, if_pos hk]; rfl, rfl, by simp [hk]⟩
    · rw [hr, if_neg hk]
      rcases findAsking_spec heq a w es ks (i + 1) h.2 with ⟨h1, h2⟩ | ⟨j, e', h1, h2, h3⟩
      · exact .inl ⟨h1, by simp [hk, h2]⟩
      · exact .inr ⟨j + 1, e', by rw [h1]; congr 3; omega, by simpa using h2, by simpa using h3⟩

theorem findNow_int_spec (kd : IntKind) (a : Int) : ∀ (es : List MapEntry) (ks : List Int) (i : Nat), es.map (·.key) = ks.map (Value.int kd) →
    (Instr.findNow (.int kd) (.int kd a) es i = some none ∧ a ∉ ks) ∨ ∃ (j : Nat) (e : MapEntry), Instr.findNow (.int kd) (.int kd a) es i = some (some (i + j, e.val)) ∧ es[j]? = some e ∧ ks[j]? = some a
  | [], ks, i, h => by
    cases ks with
    | nil => exact .inl ⟨rfl, by simp⟩
    | cons k ks => simp at h
  | e :: es, [], i, h => by simp at h
  | e :: es, k :: ks, i, h => by
    simp only [List.map_cons, List.cons.injEq] at h
    have hr : Instr.findNow (.int kd) (.int kd a) (e :: es) i = if a = k then some (some (i, e.val)) else Instr.findNow (.int kd) (.int kd a) es (i + 1) := by
      simp only [Instr.findNow, h.1, Instr.sameNow, if_true]
      by_cases hk : a = k
      · simp [hk]
      · have : (a == k) = false := by simpa using hk
        simp [hk, this]
    by_cases hk : a = k
    · exact .inr ⟨0, e, by rw [hr, if_pos hk]; rfl, rfl, by simp [hk]⟩
    · rw [hr, if_neg hk]
      rcases findNow_int_spec kd a es ks (i + 1) h.2 with ⟨h1, h2⟩ | ⟨j, e', h1, h2, h3⟩
      · exact .inl ⟨h1, by simp [hk, h2]⟩
      · exact .inr ⟨j + 1, e', by rw [h1]; congr 3; omega, by simpa using h2, by simpa using h3⟩

def KN : KeyEnc Tryz.prog 46 Nm where
  enc := nv
  inj := nv_inj
  chk := fun e a w => by kernel_rfl
  stays := fun a w => by
    have : Instr.sameBits 10000 (nv a) (nv a) = true := by unfold nv; simp [Instr.sameBits]
    simp [Instr.keyThatStays, this]
  find := fun a es ks w h => by
    have hnow : Instr.findNow (.struct (Tryz.prog.fieldsOf 46)) (nv a) es 0 = if es = [] then some none else none := by
      cases es with
      | nil => rfl
      | cons e es => simp [Instr.findNow, Instr.sameNow]
    have hu : Tryz.prog.underlying 46 = some (.struct (Tryz.prog.fieldsOf 46)) := by kernel_rfl
    by_cases he : es = []
    · subst he
      refine .inl ⟨?_, ?_⟩
      · simp [Instr.findKey, run_underlying hu, hnow]
      · cases ks with
        | nil => simp
        | cons k ks => simp at h
    · have : (Instr.findKey 46 (nv a) es).run Tryz.prog w = (Instr.findAsking 46 (nv a) es 0).run Tryz.prog w := by
        simp [Instr.findKey, run_underlying hu, hnow, he]
      rw [this]
      have := findAsking_spec eq_name a w es ks 0 h
      simpa using this

def KI : KeyEnc Tryz.prog 3 Int where
  enc := Value.int .i64
  inj := fun h => by simpa using h
  chk := fun e a w => by kernel_rfl
  stays := fun a w => by
    have : Instr.sameBits 10000 (.int .i64 a) (.int .i64 a) = true := by simp [Instr.sameBits]
    simp [Instr.keyThatStays, this]
  find := fun a es ks w h => by
    rcases findNow_int_spec .i64 a es ks 0 h with ⟨h1, h2⟩ | ⟨j, e, h1, h2, h3⟩
    · exact .inl ⟨by simp [Instr.findKey, run_underlying Tryz.underlying3, h1], h2⟩
    · exact .inr ⟨j, e, by simp [Instr.findKey, run_underlying Tryz.underlying3, h1], h2, h3⟩

/-- Block b is a map with just these keys and values, in the order in which the keys came. -/
def MapAt {P : Program} {kt : TypeId} {α : Type} (K : KeyEnc P kt α) (w : World) (b : Nat) (l : List (α × Value)) : Prop :=
  ∃ es clock, w.heap[b]? = some (.map es clock) ∧ es.toList.map (fun e => (e.key, e.val)) = l.map (fun p => (K.enc p.1, p.2)) ∧ (l.map (·.1)).Nodup ∧ (es.toList.map (·.born)).Nodup ∧ ∀ e ∈ es.toList, e.born < clock

section
variable {P : Program} {kt : TypeId} {α : Type} {K : KeyEnc P kt α} {w w' : World} {b : Nat} {l : List (α × Value)}

theorem MapAt.lt (h : MapAt K w b l) : b < w.heap.size := by
  obtain ⟨es, clock, hb, _⟩ := h
  exact (Array.getElem?_eq_some_iff.1 hb).1
theorem MapAt.of_block (h : MapAt K w b l) (hh : w'.heap[b]? = w.heap[b]?) : MapAt K w' b l := by
  obtain ⟨es, clock, hb, r⟩ := h
  exact ⟨es, clock, hh.trans hb, r⟩
theorem MapAt.made (K : KeyEnc P kt α) (w : World) : MapAt K (w.alloc (.map #[] 0)) w.heap.size [] :=
  ⟨#[], 0, (MapKept.heap_alloc w _).1, rfl, by simp, by simp, by simp⟩

theorem keys_of {es : List MapEntry} (h : es.map (fun e => (e.key, e.val)) = l.map (fun p => (K.enc p.1, p.2))) : es.map (·.key) = (l.map (·.1)).map K.enc := by
  have := congrArg (List.map Prod.fst) h
  simpa [List.map_map, Function.comp_def] using this

theorem MapAt.look_none {t e : TypeId} {z : Value} (h : MapAt K w b l) (ht : P.underlying t = some (.map kt e)) (hz : (zeroValue e).run P w = .ok z w) {a : α} (ha : a ∉ l.map (·.1)) (ok : Bool) :
    (Instr.lookup t (.map (some b)) (K.enc a) ok).run P w = .ok (if ok then .tuple #[z, .bool false] else z) w := by
  obtain ⟨es, clock, hb, hes, hnd, _⟩ := h
  rcases K.find a es.toList (l.map (·.1)) w (keys_of hes) with ⟨h1, _⟩ | ⟨j, e0, _, _, h3⟩
  · have hg := MapKept.run_getObj_map (P := P) hb
    cases ok <;> simp [Instr.lookup, run_underlying ht, hg, K.chk, h1, hz, Result.andThen]
  · exact absurd (List.mem_of_getElem? h3) ha

theorem MapAt.look_some {t e : TypeId} {v : Value} (h : MapAt K w b l) (ht : P.underlying t = some (.map kt e)) {a : α} (ha : (a, v) ∈ l) (ok : Bool) :
    (Instr.lookup t (.map (some b)) (K.enc a) ok).run P w = .ok (if ok then .tuple #[v, .bool true] else v) w := by
  obtain ⟨es, clock, hb, hes, hnd, _⟩ := h
  rcases K.find a es.toList (l.map (·.1)) w (keys_of hes) with ⟨_, h2⟩ | ⟨j, e0, h1, h2, h3⟩
  · exact absurd (List.mem_map.2 ⟨_, ha, rfl⟩) h2
  · have hj : l[j]? = some (a, v) := by
      rw [List.getElem?_map] at h3
      obtain ⟨p, hp, hpa⟩ := Option.map_eq_some_iff.1 h3
      obtain ⟨i, hi⟩ := List.getElem?_of_mem ha
      have e1 : (l.map (·.1))[i]? = (l.map (·.1))[j]? := by simp [hi, hp, hpa]
      have hij : i = j := by
        have hil := (List.getElem?_eq_some_iff.1 hi).1
        exact (List.getElem?_inj (by simpa using hil) hnd).1 e1
      subst hij
      exact hi
    have hv : e0.val = v := by
      have e1 : (es.toList.map (fun e => (e.key, e.val)))[j]? = (l.map (fun p => (K.enc p.1, p.2)))[j]? := by rw [hes]
      rw [List.getElem?_map, List.getElem?_map, h2, hj] at e1
      simp at e1
      exact e1.2
    have hg := MapKept.run_getObj_map (P := P) hb
    cases ok <;> simp [Instr.lookup, run_underlying ht, hg, K.chk, h1, hv, Result.andThen]

theorem heap_set_same (hb : b < w.heap.size) (o : Obj) : (ChangeMaps.setBlock w b o).heap[b]? = some o := by
  simp [ChangeMaps.setBlock, hb]
theorem heap_set_other (o : Obj) {i : Nat} (h : i ≠ b) : (ChangeMaps.setBlock w b o).heap[i]? = w.heap[i]? := by
  simp only [ChangeMaps.setBlock]
  exact Array.getElem?_setIfInBounds_ne (Ne.symm h)
theorem grown_set (o : Obj) : w.grownBy (ChangeMaps.setBlock w b o) (some b) :=
  ⟨rfl, rfl, rfl, by simp [ChangeMaps.setBlock], fun i _ hi => heap_set_other o (fun e => hi (by rw [e]))⟩

/-- The same blocks, but for one. -/
structure Turned (w w' : World) (b : Nat) : Prop where
  os : w'.os = w.os
  tape : w'.tape = w.tape
  output : w'.output = w.output
  size : w'.heap.size = w.heap.size
  block : ∀ i, i ≠ b → w'.heap[i]? = w.heap[i]?
theorem turned_set (o : Obj) : Turned w (ChangeMaps.setBlock w b o) b :=
  ⟨rfl, rfl, rfl, by simp [ChangeMaps.setBlock], fun i hi => heap_set_other o hi⟩

theorem MapAt.put_new {t e : TypeId} (h : MapAt K w b l) (ht : P.underlying t = some (.map kt e)) {a : α} (ha : a ∉ l.map (·.1)) (v : Value) :
    ∃ w', (Instr.mapUpdate t (.map (some b)) (K.enc a) v).run P w = .ok () w' ∧ MapAt K w' b (l ++ [(a, v)]) ∧ Turned w w' b := by
  have hlt := h.lt
  obtain ⟨es, clock, hb, hes, hnd, hbn, hcl⟩ := h
  rcases K.find a es.toList (l.map (·.1)) w (keys_of hes) with ⟨h1, _⟩ | ⟨j, e0, _, _, h3⟩
  · have hg := MapKept.run_getObj_map (P := P) hb
    have hset := MapKept.run_setObj_map (P := P) (.map (es.push { key := K.enc a, val := v, born := clock }) (clock + 1)) hb
    refine ⟨ChangeMaps.setBlock w b (.map (es.push { key := K.enc a, val := v, born := clock }) (clock + 1)), ?_, ⟨_, _, heap_set_same hlt _, ?_, ?_, ?_, ?_⟩, turned_set _⟩
    · simp [Instr.mapUpdate, run_underlying ht, hg, K.chk, h1, hset, Result.andThen, ChangeMaps.setBlock]
    · simp [hes]
    · rw [List.map_append, List.nodup_append]
      refine ⟨hnd, by simp, ?_⟩
      intro x hx y hy
      simp at hy
      subst hy
      exact fun e => ha (e ▸ hx)
    · rw [Array.toList_push, List.map_append, List.nodup_append]
      refine ⟨hbn, by simp, ?_⟩
      intro x hx y hy
      simp at hy
      subst hy
      obtain ⟨e, he, rfl⟩ := List.mem_map.1 hx
      have := hcl e he
      omega
    · intro e he
      simp at he
      rcases he with he | rfl
      · have := hcl e (by simpa using he); omega
      · simp
  · exact absurd (List.mem_of_getElem? h3) ha

theorem MapAt.put_old {t e : TypeId} {l1 l2 : List (α × Value)} {v0 : Value} {a : α} (h : MapAt K w b (l1 ++ (a, v0) :: l2)) (ht : P.underlying t = some (.map kt e)) (v : Value) :
    ∃ w', (Instr.mapUpdate t (.map (some b)) (K.enc a) v).run P w = .ok () w' ∧ MapAt K w' b (l1 ++ (a, v) :: l2) ∧ Turned w w' b := by
  have hlt := h.lt
  obtain ⟨es, clock, hb, hes, hnd, hbn, hcl⟩ := h
  rcases K.find a es.toList _ w (keys_of hes) with ⟨_, h2⟩ | ⟨j, e0, h1, h2, h3⟩
  · exact absurd (by simp) h2
  · have hj : j = l1.length := by
      have e1 : ((l1 ++ (a, v0) :: l2).map (·.1))[l1.length]? = ((l1 ++ (a, v0) :: l2).map (·.1))[j]? := by rw [h3]; simp
      exact ((List.getElem?_inj (by simp) hnd).1 e1).symm
    have hk0 : e0.key = K.enc a := by
      have e1 : (es.toList.map (fun e => (e.key, e.val)))[j]? = ((l1 ++ (a, v0) :: l2).map (fun p => (K.enc p.1, p.2)))[j]? := by rw [hes]
      rw [List.getElem?_map, h2, hj] at e1
      simp at e1
      exact e1.1
    have hjs : j < es.size := by
      have := (List.getElem?_eq_some_iff.1 h2).1
      simpa using this
    have hesj : es[j]? = some e0 := by simpa using h2
    have hg := MapKept.run_getObj_map (P := P) hb
    have hset := MapKept.run_setObj_map (P := P) (.map (es.modify j fun e => { e with key := K.enc a, val := v }) clock) hb
    refine ⟨ChangeMaps.setBlock w b (.map (es.modify j fun e => { e with key := K.enc a, val := v }) clock), ?_, ⟨_, _, heap_set_same hlt _, ?_, ?_, ?_, ?_⟩, turned_set _⟩
    · simp [Instr.mapUpdate, run_underlying ht, hg, K.chk, h1, hesj, hk0, K.stays, hset, Result.andThen, ChangeMaps.setBlock]
    · apply List.ext_getElem?
      intro i
      have e1 : (es.toList.map (fun e => (e.key, e.val)))[i]? = ((l1 ++ (a, v0) :: l2).map (fun p => (K.enc p.1, p.2)))[i]? := by rw [hes]
      rw [List.getElem?_map] at e1 ⊢
      rw [Array.getElem?_toList, Array.getElem?_modify]
      by_cases hi : j = i
      · subst hi
        subst hj
        simp [hesj]
      · rw [if_neg hi]
        rw [Array.getElem?_toList] at e1
        rw [e1]
        simp only [List.map_append, List.map_cons]
        rw [List.getElem?_append, List.getElem?_append]
        split
        · rfl
        · rename_i hge
          rw [List.getElem?_cons, List.getElem?_cons]
          simp at hge
          rw [if_neg (by simp; omega), if_neg (by simp; omega)]
    · simpa using hnd
    · have : (es.modify j fun e => { e with key := K.enc a, val := v }).toList.map (·.born) = es.toList.map (·.born) := by
        apply List.ext_getElem?
        intro i
        rw [List.getElem?_map, List.getElem?_map, Array.getElem?_toList, Array.getElem?_modify, Array.getElem?_toList]
        split <;> simp [Option.map_map, Function.comp_def]
      rw [this]
      exact hbn
    · intro e he
      obtain ⟨i, hi⟩ := List.getElem?_of_mem he
      rw [Array.getElem?_toList, Array.getElem?_modify] at hi
      split at hi
      · obtain ⟨e1, h4, h5⟩ := Option.map_eq_some_iff.1 hi
        subst h5
        exact hcl e1 (List.mem_of_getElem? (by rw [Array.getElem?_toList]; exact h4))
      · exact hcl e (List.mem_of_getElem? (by rw [Array.getElem?_toList]; exact hi))

theorem MapAt.del_old {t e ty : TypeId} {l1 l2 : List (α × Value)} {v0 : Value} {a : α} (h : MapAt K w b (l1 ++ (a, v0) :: l2)) (ht : P.underlying t = some (.map kt e)) :
    ∃ w', (Builtin.delete_ #[t, kt] ty #[.map (some b), K.enc a]).run P w = .ok (.tuple #[]) w' ∧ MapAt K w' b (l1 ++ l2) ∧ Turned w w' b := by
  have hlt := h.lt
  obtain ⟨es, clock, hb, hes, hnd, hbn, hcl⟩ := h
  rcases K.find a es.toList _ w (keys_of hes) with ⟨_, h2⟩ | ⟨j, e0, h1, h2, h3⟩
  · exact absurd (by simp) h2
  · have hj : j = l1.length := by
      have e1 : ((l1 ++ (a, v0) :: l2).map (·.1))[l1.length]? = ((l1 ++ (a, v0) :: l2).map (·.1))[j]? := by rw [h3]; simp
      exact ((List.getElem?_inj (by simp) hnd).1 e1).symm
    have hjs : j < es.size := by
      have := (List.getElem?_eq_some_iff.1 h2).1
      simpa using this
    have hg := MapKept.run_getObj_map (P := P) hb
    have hset := MapKept.run_setObj_map (P := P) (.map (es.eraseIdxIfInBounds j) clock) hb
    have hel : (es.eraseIdxIfInBounds j).toList = es.toList.eraseIdx j := by simp
    refine ⟨ChangeMaps.setBlock w b (.map (es.eraseIdxIfInBounds j) clock), ?_, ⟨_, _, heap_set_same hlt _, ?_, ?_, ?_, ?_⟩, turned_set _⟩
    · simp [Builtin.delete_, run_underlying ht, hg, K.chk, h1, hset, Result.andThen, ChangeMaps.setBlock]
    · rw [hel, ChangeMaps.map_eraseIdx, hes, hj]
      simp [List.eraseIdx_append_of_length_le]
    · rw [List.map_append, List.map_cons] at hnd
      rw [List.map_append]
      exact hnd.sublist (by simp)
    · rw [hel, ChangeMaps.map_eraseIdx]
      exact hbn.sublist (List.eraseIdx_sublist _ _)
    · intro e he
      rw [hel] at he
      exact hcl e (List.mem_of_mem_eraseIdx he)

theorem MapAt.del_none {t e ty : TypeId} {a : α} (h : MapAt K w b l) (ht : P.underlying t = some (.map kt e)) (ha : a ∉ l.map (·.1)) :
    ∃ w', (Builtin.delete_ #[t, kt] ty #[.map (some b), K.enc a]).run P w = .ok (.tuple #[]) w' ∧ MapAt K w' b l ∧ Turned w w' b := by
  have hlt := h.lt
  obtain ⟨es, clock, hb, hes, hnd, hbn, hcl⟩ := h
  rcases K.find a es.toList (l.map (·.1)) w (keys_of hes) with ⟨h1, _⟩ | ⟨j, e0, _, _, h3⟩
  · have hg := MapKept.run_getObj_map (P := P) hb
    have hset := MapKept.run_setObj_map (P := P) (.map es clock) hb
    exact ⟨ChangeMaps.setBlock w b (.map es clock), by simp [Builtin.delete_, run_underlying ht, hg, K.chk, h1, hset, Result.andThen, ChangeMaps.setBlock], ⟨_, _, heap_set_same hlt _, hes, hnd, hbn, hcl⟩, turned_set _⟩
  · exact absurd (List.mem_of_getElem? h3) ha

theorem MapAt.len {t e ty : TypeId} (h : MapAt K w b l) (ht : P.underlying t = some (.map kt e)) : (Builtin.len_ #[t] ty #[.map (some b)]).run P w = .ok (.int .i64 l.length) w := by
  obtain ⟨es, clock, hb, hes, hnd, hbn, hcl⟩ := h
  have hg := MapKept.run_getObj_map (P := P) hb
  have : es.size = l.length := by
    have := congrArg List.length hes
    simpa using this
  simp [Builtin.len_, run_underlying ht, hg, goInt, this, Result.andThen]
end
end Go.Proofs.YtcdlplbccblbaaaGreat
