import Derived.Test.YtogeojiaiilghaaGreatOn
import Derived.Test.YtogeojiaiilghaaGreatXe
import Derived.Test.YtogeojiaiilghaaGreatOp
set_option linter.unusedVariables false
namespace Go.Ev
open Go.RowKit Go.Proofs Go.Proofs.YtogeojiaiilghaaGreat
noncomputable section
def nmA (x : AV) : Option Nm :=
  match x with
  | .agg [.int .i64 k, .int .i64 o, .int .u32 p, .int .i64 s] => some ⟨k, o, p, s⟩
  | _ => none
def nmsA (l : List (AV × AV × Nat)) : Option (List Nm) := List.rec (some []) (fun x _ ih => match nmA x.1 with
  | some a => match ih with
    | some r => some (a :: r)
    | none => none
  | none => none) l
def flatA (l : List Nm) : List AV := List.rec [] (fun a _ ih => .int .i64 a.kind :: .int .i64 a.of_ :: .int .u32 a.page :: .int .i64 a.slot :: ih) l
def goodA (ks : List Nm) (bs : List Nat) (clock : Nat) : Bool := decide (ks.Nodup) && (decide (bs.Nodup) && bs.all fun b => Nat.blt b clock)
def bornA (l : List (AV × AV × Nat)) : List Nat := List.rec [] (fun x _ ih => x.2.2 :: ih) l
def mapOf (l o : Nat) (H : Tr AObj) : Option (List (AV × AV × Nat) × Nat) :=
  match hget H l with
  | some (.cells cs _ _) => match lget cs o with
    | some (.map r) => match hget H r with
      | some (.map kes clock) => some (kes, clock)
      | _ => none
    | _ => none
  | _ => none
def namesO (vs : List AV) (H : Tr AObj) (N : Nat) : Option (AV × Tr AObj × Nat) :=
  match vs with
  | [.ptr l o] => match mapOf l o H with
    | some (kes, clock) => match nmsA kes with
      | some ks => match goodA ks (bornA kes) clock with
        | true => match Nat.blt (llen ks) 1000000 with
          | true => match ks with
            | [] => some (.nilSlice, H, N)
            | a :: r => match Nat.blt N 16777216 with
              | true => some (.slice N 0 (llen (a :: r)) true 0 0, hput H N (.cells (flatA (isortN (a :: r))) 4 true), Nat.succ N)
              | false => none
          | false => none
        | false => none
      | none => none
    | none => none
  | _ => none
def sortedO (vs : List AV) (H : Tr AObj) (N : Nat) : Option (AV × Tr AObj × Nat) :=
  match vs with
  | [.fn f [] [.ptr l o]] => match Nat.beq f 224 || Nat.beq f 235 with
    | true => match mapOf l o H with
      | some ([], clock) => some (.nilSlice, H, N)
      | _ => none
    | false => none
  | _ => none
end
def encN (a : Nm) : AV := .agg [.int .i64 a.kind, .int .i64 a.of_, .int .u32 a.page, .int .i64 a.slot]
theorem nmA_eq {x : AV} {a : Nm} (h : nmA x = some a) : x = encN a := by
  unfold nmA at h
  split at h
  · cases h; rfl
  · cases h
theorem nmsA_cons (x : AV × AV × Nat) (l : List (AV × AV × Nat)) : nmsA (x :: l) = (match nmA x.1 with
  | some a => match nmsA l with
    | some r => some (a :: r)
    | none => none
  | none => none) := rfl
theorem nmsA_eq {l : List (AV × AV × Nat)} {ks : List Nm} (h : nmsA l = some ks) : l.map (·.1) = ks.map encN := by
  induction l generalizing ks with
  | nil => cases h; rfl
  | cons x l ih =>
    rw [nmsA_cons] at h
    split at h
    · rename_i a ha
      split at h
      · rename_i r hr
        cases h
        simp only [List.map_cons]
        rw [nmA_eq ha, ih hr]
      · cases h
    · cases h
theorem bornA_eq (l : List (AV × AV × Nat)) : bornA l = l.map (·.2.2) := by
  induction l with
  | nil => rfl
  | cons x l ih =>
    have : bornA (x :: l) = x.2.2 :: bornA l := rfl
    rw [this, ih]; rfl
theorem flatA_concs (φ : Emb) (l : List Nm) : concs φ (flatA l) = l.flatMap nvs := by
  induction l with
  | nil => simp [flatA]
  | cons a l ih =>
    have : flatA (a :: l) = .int .i64 a.kind :: .int .i64 a.of_ :: .int .u32 a.page :: .int .i64 a.slot :: flatA l := rfl
    rw [this]
    simp only [cs_cons, c_int, ih, List.flatMap_cons, nvs, List.cons_append, List.nil_append]
theorem flatA_sc (φ : Emb) (N : Nat) (l : List Nm) : ∀ u ∈ flatA l, scv φ N u := by
  induction l with
  | nil => intro u hu; simp [flatA] at hu
  | cons a l ih =>
    have : flatA (a :: l) = .int .i64 a.kind :: .int .i64 a.of_ :: .int .u32 a.page :: .int .i64 a.slot :: flatA l := rfl
    rw [this]
    intro u hu
    simp only [List.mem_cons] at hu
    rcases hu with rfl | rfl | rfl | rfl | hu
    · exact sc_int _ _ _ _
    · exact sc_int _ _ _ _
    · exact sc_int _ _ _ _
    · exact sc_int _ _ _ _
    · exact ih u hu
/-- The map that a cell holds. -/
theorem mapOf_ok {φ : Emb} {H : Tr AObj} {N l o clock : Nat} {kes : List (AV × AV × Nat)} {w : World} (h : mapOf l o H = some (kes, clock)) (hh : HRel φ H N w) (hk : φ.k l) :
    ∃ b, w.cell? ⟨φ.b l, φ.s l + o, none⟩ = some (.map (some b)) ∧ φ.b l < w.heap.size ∧ w.heap[b]? = some (.map (kes.map fun e => { key := conc φ e.1, val := conc φ e.2.1, born := e.2.2 : MapEntry }).toArray clock) := by
  unfold mapOf at h
  split at h
  case h_2 => cases h
  rename_i cs es unk hl
  split at h
  case h_2 => cases h
  rename_i r hr
  split at h
  case h_2 => cases h
  rename_i kes' clock' hm
  cases h
  obtain ⟨h1, h2, h3⟩ := hh.obj l _ hl hk
  have hg : cs[o]? = some (.map r) := by rw [← lget_eq]; exact hr
  have hsr := h3 _ (List.mem_of_getElem? hg)
  rw [sc_map] at hsr
  obtain ⟨g1, g2, g3⟩ := hh.obj r _ hm hsr.2
  have hlt := h2.lt
  obtain ⟨c, t, lo, hi, k1, k2, k3, k4, k5⟩ := h2
  refine ⟨φ.b r, ?_, hlt, g2⟩
  have := k3 o _ hg
  rw [c_map] at this
  rw [cell_of_row w (φ.b l) (φ.s l + o) c t (lo, hi) k1]
  exact this
theorem names_orc : CallOk Tryz.prog fun f' vs H N => match Nat.beq f' 76 with
    | true => match namesO vs H N with
      | some (v, H, N) => some ⟨v, H, N⟩
      | none => none
    | false => none := by
  intro f vs H N out h
  simp only at h
  split at h
  case h_2 => cases h
  rename_i hf
  obtain rfl := Nat.eq_of_beq_eq_true hf
  refine ⟨⟨Tryz.f76, Tryz.func76, rfl, rfl⟩, fun φ w hh hs hN => ?_⟩
  unfold namesO at h
  split at h
  case h_2 => cases h
  rename_i v1 H1 N1 hm
  obtain rfl := Option.some.inj h
  split at hm
  case h_2 => cases hm
  rename_i l o
  split at hm
  case h_2 => cases hm
  rename_i kes clock hmap
  split at hm
  case h_2 => cases hm
  rename_i ks hks
  split at hm
  case h_2 => cases hm
  rename_i hgood
  split at hm
  case h_2 => cases hm
  rename_i hlen
  have hlen : llen ks < 1000000 := blt_lt hlen
  rw [llen_eq] at hlen
  unfold goodA at hgood
  simp only [Bool.and_eq_true, decide_eq_true_eq] at hgood
  obtain ⟨n1, n2, n3⟩ := hgood
  rw [bornA_eq] at n2 n3
  have hsl : l < N ∧ φ.k l := by
    have := (scs_iff _ _ _).1 hs _ (List.mem_cons_self ..)
    exact (sc_ptr _ _ _ _).1 this
  obtain ⟨b, c0, clt, hbk⟩ := mapOf_ok hmap hh hsl.2
  have hkl : kes.length = ks.length := by
    have := congrArg List.length (nmsA_eq hks)
    simpa using this
  have hL : MapAt KN w b (ks.zip (kes.map fun e => conc φ e.2.1)) := by
    refine ⟨_, _, hbk, ?_, ?_, ?_, ?_⟩
    · have hz : ∀ (kes : List (AV × AV × Nat)) (ks : List Nm), kes.map (·.1) = ks.map encN → (kes.map fun e => (conc φ e.1, conc φ e.2.1)) = (ks.zip (kes.map fun e => conc φ e.2.1)).map fun p => (KN.enc p.1, p.2) := by
        intro kes
        induction kes with
        | nil => intro ks h; cases ks with
          | nil => rfl
          | cons a r => simp at h
        | cons e kes ih =>
          intro ks h
          cases ks with
          | nil => simp at h
          | cons a r =>
            simp only [List.map_cons, List.cons.injEq] at h
            have := ih r h.2
            simp only [List.map_cons, List.zip_cons_cons, this]
            congr 2
            rw [h.1]
            simp [encN, KN, nv]
      have := hz kes ks (nmsA_eq hks)
      simpa [List.map_map, Function.comp_def] using this
    · rw [List.map_fst_zip (by simp [hkl])]; exact n1
    · simpa [List.map_map, Function.comp_def] using n2
    · intro e he
      simp only [List.mem_map] at he
      obtain ⟨x, hx, rfl⟩ := he
      have := List.all_eq_true.1 n3 _ (List.mem_map.2 ⟨x, hx, rfl⟩)
      exact blt_lt this
  have hcall := names_map c0 hL (by simp [List.length_zip, hkl]; omega)
  rw [List.map_fst_zip (by simp [hkl])] at hcall
  simp only [cs_cons, cs_nil, c_ptr]
  refine Calls.mono hcall fun e w' hr => ?_
  obtain ⟨v, e1, hv, hb⟩ := hr
  split at hm
  · cases hm
    obtain ⟨r1, r2⟩ := below_rel hh hb
    have hs0 : sortN ([] : List Nm) = [] := by simp [sortN]
    rw [hs0] at hv
    refine ⟨φ, ?_, r1, r2, sc_nilSlice _ _⟩
    rw [e1, hv.2.2 rfl, c_nilSlice]
  · rename_i a r _
    split at hm
    case h_2 => cases hm
    rename_i hN1
    have hN1 := blt_lt hN1
    cases hm
    have ho := hv.1
    rw [← isortN_eq] at ho
    have hl2 : (isortN (a :: r)).length = llen (a :: r) := by rw [llen_eq]; exact (isortN_perm _).length_eq
    rw [hl2, ← flatA_concs φ] at ho
    obtain ⟨φ', e2, m1, m2, m3⟩ := row_rel hh hN1 hb (flatA (isortN (a :: r))) (flatA_sc _ _ _) (fun φ' => by rw [flatA_concs, flatA_concs]) ho (by rw [llen_eq]; simp)
    exact ⟨φ', by rw [e1, e2], m1, m2, m3⟩
theorem sorted_orc (hsort : ∀ w, Calls Tryz.prog 223 #[.slice none 0 0] w fun e w' => (∃ v, e = .returned v) ∧ Below w.heap.size w w') : CallOk Tryz.prog fun f' vs H N => match Nat.beq f' 151 with
    | true => match sortedO vs H N with
      | some (v, H, N) => some ⟨v, H, N⟩
      | none => none
    | false => none := by
  intro f vs H N out h
  simp only at h
  split at h
  case h_2 => cases h
  rename_i hf
  obtain rfl := Nat.eq_of_beq_eq_true hf
  refine ⟨⟨Tryz.f151, Tryz.func151, rfl, rfl⟩, fun φ w hh hs hN => ?_⟩
  unfold sortedO at h
  split at h
  case h_2 => cases h
  rename_i v1 H1 N1 hm
  obtain rfl := Option.some.inj h
  split at hm
  case h_2 => cases hm
  rename_i f l o
  split at hm
  case h_2 => cases hm
  rename_i hf2
  split at hm
  case h_2 => cases hm
  rename_i clock hmap
  cases hm
  have hsl : l < N ∧ φ.k l := by
    have h1 := (scs_iff _ _ _).1 hs _ (List.mem_cons_self ..)
    rw [sc_fn] at h1
    exact (sc_ptr _ _ _ _).1 ((scs_iff _ _ _).1 h1.2 _ (List.mem_cons_self ..))
  obtain ⟨b, c0, clt, hbk⟩ := mapOf_ok hmap hh hsl.2
  simp only [cs_cons, cs_nil, c_fn, c_ptr]
  have key : Calls Tryz.prog 151 #[.func (.func f) #[] #[.pointer (some ⟨φ.b l, φ.s l + o, none⟩)]] w fun e w' => e = .returned (.slice none 0 0) ∧ Below w.heap.size w w' := by
    rw [Bool.or_eq_true] at hf2
    rcases hf2 with hf2 | hf2
    · obtain rfl := Nat.eq_of_beq_eq_true hf2
      exact sortedE_st _ _ b clock w clt c0 hbk hsort
    · obtain rfl := Nat.eq_of_beq_eq_true hf2
      exact sortedE_tx _ _ b clock w clt c0 hbk hsort
  refine Calls.mono key fun e w' hr => ?_
  obtain ⟨e1, hb⟩ := hr
  obtain ⟨r1, r2⟩ := below_rel hh hb
  refine ⟨φ, ?_, r1, r2, sc_nilSlice _ _⟩
  rw [e1, c_nilSlice]
end Go.Ev
