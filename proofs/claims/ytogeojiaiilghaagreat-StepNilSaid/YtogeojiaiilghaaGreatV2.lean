import Derived.Test.YtogeojiaiilghaaGreatV1
import Derived.Laws.BytesString
import Derived.Laws.AppendOwn
import Derived.Tactics
set_option linter.unusedVariables false
set_option linter.unusedSimpArgs false
set_option linter.unusedVariables false
set_option linter.unusedSimpArgs false
namespace Go.Ev
open Go.RowKit

section
variable {P : Program} {E : Env} (hE : EnvOk P E)
include hE
omit hE in
theorem bound_ok {φ : Emb} {v : AV} {i y : Nat} {code : BoundsCode} (h : natOf v = some i) (hi : i ≤ y) (w : World) : (Instr.sliceBound (conc φ v) y code).run P w = .ok i w := by
  obtain ⟨k, rfl⟩ := natOf_ok h
  have hh : (0 : Int) ≤ Int.ofNat i ∧ Int.ofNat i ≤ (y : Int) := ⟨by simp, by simpa using hi⟩
  simp only [Instr.sliceBound, c_int, asIntOf, Sem.run_bind, Sem.run_pure, Result.andThen_ok, if_pos hh]
  simp
omit hE in
theorem bounds_ok {φ : Emb} {isS : Bool} {len cap l h m : Nat} {lo hi mx : Option AV} (hl : obnd lo 0 = some l) (hh : obnd hi len = some h) (hm : obnd mx cap = some m) (h1 : l ≤ h) (h2 : h ≤ m) (h3 : m ≤ cap) (hn : hi = none → mx = none) (w : World) :
    (Instr.sliceBounds isS len cap (lo.map (conc φ)) (hi.map (conc φ)) (mx.map (conc φ))).run P w = .ok (l, h, m) w := by
  cases mx with
  | none =>
    simp only [obnd, Option.some.injEq] at hm
    subst hm
    cases hi with
    | none =>
      simp only [obnd, Option.some.injEq] at hh
      subst hh
      simp only [Instr.sliceBounds, Option.map_none, Sem.run_bind, Sem.run_pure, Result.andThen_ok, Option.isSome_none, Bool.false_eq_true, if_false]
      cases lo with
      | none =>
        simp only [obnd, Option.some.injEq] at hl
        subst hl
        simp
      | some q =>
        simp only [Option.map_some, Sem.run_bind]
        rw [bound_ok hl h1]
        simp
    | some v =>
      simp only [Instr.sliceBounds, Option.map_none, Option.map_some, Sem.run_bind, Sem.run_pure, Result.andThen_ok, Option.isSome_none, Bool.false_eq_true, if_false]
      rw [bound_ok hh h2]
      simp only [Result.andThen_ok]
      cases lo with
      | none =>
        simp only [obnd, Option.some.injEq] at hl
        subst hl
        simp
      | some q =>
        simp only [Option.map_some, Sem.run_bind]
        rw [bound_ok hl h1]
        simp
  | some u =>
    cases hi with
    | none => exact absurd (hn rfl) (by simp)
    | some v =>
      simp only [Instr.sliceBounds, Option.map_some, Sem.run_bind, Sem.run_pure, Result.andThen_ok, Option.isSome_some, if_true]
      rw [bound_ok hm h3]
      simp only [Result.andThen_ok]
      rw [bound_ok hh h2]
      simp only [Result.andThen_ok]
      cases lo with
      | none =>
        simp only [obnd, Option.some.injEq] at hl
        subst hl
        simp
      | some q =>
        simp only [Option.map_some, Sem.run_bind]
        rw [bound_ok hl h1]
        simp
omit hE in
theorem str_extract (len n l h : Nat) (h1 : l ≤ h) (h2 : h ≤ len) : (⟨(sbytes len n).toArray⟩ : ByteArray).extract l h = ⟨(sbytes (h - l) (n / 256 ^ l)).toArray⟩ := by
  apply ByteArray.ext
  rw [ByteArray.data_extract]
  apply Array.ext_getElem?
  intro i
  simp only [Array.getElem?_extract, List.getElem?_toArray, List.size_toArray, sbytes_len]
  by_cases hi : i < h - l
  · rw [if_pos (by omega), sbytes_get len n (l + i) (by omega), sbytes_get (h - l) _ i hi, Nat.div_div_eq_div_mul, Nat.pow_add]
  · rw [if_neg (by omega), List.getElem?_eq_none (by rw [sbytes_len]; omega)]
theorem evSlice_ok {φ : Emb} {H : Tr AObj} {N t : Nat} {x v : AV} {lo hi mx : Option AV} {w : World} (h : evSlice E t x lo hi mx H = some v) (hh : HRel φ H N w) (hs : scv φ N x) (hn : hi = none → mx = none) :
    (Instr.sliceAt t (conc φ x) (lo.map (conc φ)) (hi.map (conc φ)) (mx.map (conc φ))).run P w = .ok (conc φ v) w ∧ scv φ N v := by
  unfold evSlice at h
  split at h
  · rename_i hu
    split at h
    · rename_i len n
      split at h
      · split at h
        · rename_i l hl
          split at h
          · rename_i hgh hhh
            split at h
            · rename_i b1
              split at h
              · rename_i b2
                have b1 := ble_le b1
                have b2 := ble_le b2
                obtain rfl := Option.some.inj h
                refine ⟨?_, sc_str _ _ _ _⟩
                have hb := bounds_ok (P := P) (φ := φ) (isS := false) (mx := none) hl hhh (m := len) rfl b1 b2 (Nat.le_refl _) (fun _ => rfl) w
                simp only [Instr.sliceAt, Sem.run_bind, run_und hE hu, Result.andThen_ok, Instr.slice, c_str, Option.map_none, Option.isSome_none, Bool.false_eq_true, if_false, Sem.run_pure]
                rw [str_size]
                rw [Option.map_none] at hb
                rw [hb]
                simp only [Result.andThen_ok, Sem.run_pure]
                rw [str_extract _ _ _ _ b1 b2]
                have e : sbytes (Nat.sub hgh l) (Nat.mod (Nat.div n (p256 l)) (p256 (Nat.sub hgh l))) = sbytes (hgh - l) (n / 256 ^ l) := sbytes_mod (hgh - l) (n / 256 ^ l)
                rw [e]
              · cases h
            · cases h
          · cases h
        · cases h
      · cases h
    · cases h
  · rename_i e hu
    split at h
    · split at h
      · rename_i hl
        split at h
        · rename_i hhi
          split at h
          · rename_i hmx
            split at h
            case h_2 => cases h
            rename_i es hes
            obtain rfl := Option.some.inj h
            refine ⟨?_, sc_nilSlice _ _⟩
            have hb := bounds_ok (P := P) (φ := φ) (isS := true) (lo := lo) (hi := hi) (mx := mx) (len := 0) (cap := 0) hl hhi hmx (Nat.le_refl _) (Nat.le_refl _) (Nat.le_refl _) hn w
            simp only [Instr.sliceAt, Sem.run_bind, run_und hE hu, Result.andThen_ok, Instr.slice, c_nilSlice]
            rw [hb]
            simp [run_size hE hes]
          · cases h
        · cases h
      · cases h
    · rename_i b o len u c y
      split at h
      · rename_i n hn'
        split at h
        · rename_i l hl
          split at h
          · rename_i hg hhi
            split at h
            · rename_i b1
              have b1 := ble_le b1
              split at h
              · have hsl := (sc_sliceF _ _ _ _ _ _ _).1 hs
                split at h
                · rename_i m hm
                  split at h
                  · rename_i b2
                    have b2 := ble_le b2
                    split at h
                    · rename_i b3
                      have b3 := ble_le b3
                      obtain rfl := Option.some.inj h
                      refine ⟨?_, (sc_sliceF _ _ _ _ _ _ _).2 hsl⟩
                      have hb := bounds_ok (P := P) (φ := φ) (isS := true) (lo := lo) (hi := hi) (mx := mx) (len := len) (cap := c) hl hhi hm b1 b2 b3 hn w
                      simp only [Instr.sliceAt, Sem.run_bind, run_und hE hu, Result.andThen_ok, Instr.slice, c_sliceF]
                      rw [hb]
                      simp only [Result.andThen_ok, run_size hE hn', Sem.run_pure, Option.map_some, add_none]
                      rw [bool_rec]
                      by_cases e1 : m = l
                      · subst e1
                        rw [if_pos rfl, if_pos (Nat.beq_refl m)]
                        rfl
                      · have e2 : Nat.beq m l = false := by
                          cases hq : Nat.beq m l
                          · rfl
                          · exact absurd (Nat.eq_of_beq_eq_true hq) e1
                        rw [if_neg e1, e2]
                        simp [Nat.add_assoc]
                    · cases h
                  · cases h
                · cases h
              · obtain ⟨hsl, hsc, hsx⟩ := (sc_sliceT _ _ _ _ _ _ _).1 hs
                split at h
                case h_2 => cases h
                rename_i cs es ho
                obtain ⟨-, ⟨cc, tt, lo', hi', o1, o2, o3, o4, o5⟩, -⟩ := hh.obj b _ ho hsl.2
                obtain ⟨o6, o7⟩ := o5 rfl
                split at h
                case h_2 => cases h
                rename_i hbe
                have hbe := Nat.eq_of_beq_eq_true hbe
                obtain ⟨n, rfl⟩ : ∃ k, n = k + 1 := by
                  cases n with
                  | zero => cases h
                  | succ n => exact ⟨n, rfl⟩
                subst hbe
                simp only at h
                split at h
                case h_2 => cases h
                rename_i hbo
                have hbo : o = c * (n + 1) := Nat.eq_of_beq_eq_true hbo
                have hle : ∀ k, o + k * (n + 1) ≤ cs.length → c + k ≤ φ.c b := fun k hk => by
                  have h1 : (c + k) * (n + 1) ≤ φ.c b * (n + 1) := by rw [Nat.add_mul, ← hbo]; omega
                  exact Nat.le_of_mul_le_mul_right h1 (by omega)
                split at h
                · split at h
                  case h_2 => cases h
                  rename_i bk
                  have bk := ble_le bk
                  rw [llen_eq] at bk
                  have hc := hle hg bk
                  have hb := bounds_ok (P := P) (φ := φ) (isS := true) (lo := lo) (hi := hi) (mx := none) (len := len) (cap := φ.c b - c) (m := φ.c b - c) hl hhi rfl b1 (by omega) (Nat.le_refl _) (fun _ => rfl) w
                  cases l with
                  | zero =>
                    simp only at h
                    obtain rfl := Option.some.inj h
                    refine ⟨?_, (sc_sliceT _ _ _ _ _ _ _).2 ⟨hsl, by omega, hsx⟩⟩
                    simp only [Instr.sliceAt, Sem.run_bind, run_und hE hu, Result.andThen_ok, Instr.slice, c_sliceT, Option.map_none]
                    rw [Option.map_none] at hb
                    rw [hb]
                    simp only [Result.andThen_ok, run_size hE hn', Sem.run_pure, Option.map_some, Nat.zero_mul, add_none, Nat.add_zero, Nat.sub_zero, ite_self]
                  | succ l =>
                    simp only at h
                    obtain rfl := Option.some.inj h
                    refine ⟨?_, (sc_sliceT _ _ _ _ _ _ _).2 ⟨hsl, by show hg - (l + 1) + (c + (l + 1)) ≤ _; omega, Nat.le_add_right _ _⟩⟩
                    simp only [Instr.sliceAt, Sem.run_bind, run_und hE hu, Result.andThen_ok, Instr.slice, c_sliceT, Option.map_none]
                    rw [Option.map_none] at hb
                    rw [hb]
                    simp only [Result.andThen_ok, run_size hE hn', Sem.run_pure, Option.map_some, add_none]
                    have e0 : ¬ φ.c b = c := by omega
                    rw [if_neg e0]
                    by_cases e1 : φ.c b - c = l + 1
                    · have e2 : φ.c b = c.add (l + 1) := by show _ = c + (l + 1); omega
                      rw [if_pos e1, if_pos e2]
                      congr 2
                      show φ.c b - c - (l + 1) = φ.c b - (c + (l + 1))
                      omega
                    · have e2 : ¬ φ.c b = c.add (l + 1) := by show ¬ _ = c + (l + 1); omega
                      rw [if_neg e1, if_neg e2]
                      congr 2
                      · show some (⟨φ.b b, φ.s b + o + (l + 1) * (n + 1), none⟩ : Addr) = some ⟨φ.b b, φ.s b + (o + (l + 1) * (n + 1)), none⟩
                        rw [Nat.add_assoc]
                      · show φ.c b - c - (l + 1) = φ.c b - (c + (l + 1))
                        omega
                · rename_i mv
                  split at h
                  case h_2 => cases h
                  rename_i m hm
                  split at h
                  case h_2 => cases h
                  rename_i b2
                  have b2 := ble_le b2
                  split at h
                  case h_2 => cases h
                  rename_i b3
                  have b3 := ble_le b3
                  rw [llen_eq] at b3
                  have hc := hle (m + 1) b3
                  obtain rfl := Option.some.inj h
                  refine ⟨?_, (sc_sliceF _ _ _ _ _ _ _).2 hsl⟩
                  have hb := bounds_ok (P := P) (φ := φ) (isS := true) (lo := lo) (hi := hi) (mx := some mv) (len := len) (cap := φ.c b - c) (m := m + 1) hl hhi hm b1 b2 (by omega) hn w
                  simp only [Instr.sliceAt, Sem.run_bind, run_und hE hu, Result.andThen_ok, Instr.slice, c_sliceT]
                  rw [hb]
                  simp only [Result.andThen_ok, run_size hE hn', Sem.run_pure, Option.map_some, add_none, c_sliceF]
                  have e0 : ¬ φ.c b = c := by omega
                  rw [if_neg e0, bool_rec]
                  by_cases e1 : m + 1 = l
                  · subst e1
                    rw [if_pos rfl, if_pos (Nat.beq_refl (m + 1))]
                    rfl
                  · have e2 : Nat.beq (m + 1) l = false := by
                      cases hq : Nat.beq (m + 1) l
                      · rfl
                      · exact absurd (Nat.eq_of_beq_eq_true hq) e1
                    rw [if_neg e1, e2]
                    simp [Nat.add_assoc]
            · cases h
          · cases h
        · cases h
      · cases h
    · cases h
  · cases h
end
end Go.Ev

set_option linter.unusedVariables false
set_option linter.unusedSimpArgs false
namespace Go.Ev
open Go.RowKit

def mEnt (φ : Emb) (e : AV × AV × Nat) : MapEntry := { key := conc φ e.1, val := conc φ e.2.1, born := e.2.2 }
section
variable {P : Program} {E : Env} (hE : EnvOk P E)
include hE
theorem ckFlds_ok {φ : Emb} {D : Nat} {b : Bool} {ih : Nat → AV → Bool} (hi : ∀ t v, ih t v = true → ∀ w, (Instr.checkKey b D t (conc φ v)).run P w = .ok () w) (cs : List AV) (w : World) :
    ∀ (fs : List Field), ckFlds E ih cs fs = true → (forIn fs PUnit.unit (fun f (_ : PUnit) => if f.name ≠ "_" then do
          let x ← Go.part f.type (concs φ cs).toArray f.offset
          Instr.checkKey b D f.type x
          pure (ForInStep.yield PUnit.unit)
        else pure (ForInStep.yield PUnit.unit)) : Sem PUnit).run P w = .ok PUnit.unit w
  | [], h => by simp
  | f :: fs, h => by
    have h' : (match part E f.type cs f.offset with
      | some a => @Bool.rec (fun _ => Bool) false (ckFlds E ih cs fs) (ih f.type a)
      | none => false) = true := h
    split at h'
    · rename_i a ha
      rw [bool_rec] at h'
      split at h'
      · rename_i ht
        have ihh := ckFlds_ok hi cs w fs h'
        have p1 := run_part hE ha φ w
        rw [List.forIn_cons]
        by_cases hn : f.name = "_"
        · simp [hn]
          simpa using ihh
        · simp only [if_pos (show f.name ≠ "_" from hn), Sem.run_bind, p1, Result.andThen_ok, hi _ _ ht, Sem.run_pure]
          exact ihh
      · cases h'
    · cases h'
theorem ckKey_ok {φ : Emb} : ∀ (d t : Nat) (v : AV), ckKey E d t v = true → ∀ (b : Bool) (D : Nat), d ≤ D → ∀ w, (Instr.checkKey b D t (conc φ v)).run P w = .ok () w
  | 0, t, v, h, b, D, hD, w => by cases h
  | d + 1, t, v, h, b, D, hD, w => by
    obtain ⟨D, rfl⟩ : ∃ D', D = D' + 1 := ⟨D - 1, by omega⟩
    have h' : ckBody E (ckKey E d) t v = true := h
    clear h
    unfold ckBody at h'
    split at h'
    · rename_i k hu
      simp [Instr.checkKey, run_und hE hu]
    · rename_i hu
      simp [Instr.checkKey, run_und hE hu]
    · rename_i hu
      simp [Instr.checkKey, run_und hE hu]
    · rename_i fs hu
      split at h'
      · rename_i cs
        simp only [Instr.checkKey, Sem.run_bind, run_und hE hu, Result.andThen_ok, c_agg]
        rw [← Array.forIn_toList]
        have := ckFlds_ok hE (φ := φ) (b := b) (D := D) (fun t v h w => ckKey_ok d t v h b D (by omega) w) cs w fs.toList h'
        rw [this]
        rfl
      · cases h'
    · cases h'
omit hE in
theorem sameNow_eq {φ : Emb} {kind : TypeDesc} {d t : Nat} {x y : AV} {b b' : Bool} (hu : E.und t = some kind) (h : evEq E d t x y = some b) (h' : Instr.sameNow kind (conc φ x) (conc φ y) = some b') : b' = b := by
  cases d with
  | zero => cases h
  | succ d =>
    have h1 : eqBody E (evEq E d) t x y = some b := h
    unfold eqBody at h1
    rw [hu] at h1
    cases kind <;> simp only [Instr.sameNow] at h' <;> try (cases h'; done)
    all_goals dsimp only at h1
    · split at h1
      · rename_i p q
        obtain rfl := Option.some.inj h1
        simp at h'
        rw [← h']
        cases p <;> cases q <;> rfl
      · cases h1
    · rename_i k
      split at h1
      · rename_i k1 p k2 q
        split at h1
        · rename_i hk
          obtain rfl := kindEq_eq hk
          obtain rfl := Option.some.inj h1
          simp at h'
          rw [← h', ieq_eq]
        · cases h1
      · cases h1
    · split at h1
      · obtain rfl := Option.some.inj h1
        simp at h'
        rw [← h', seq_eq, beq_toListBytes, str_toList, str_toList]
      · cases h1
theorem findK_ok {φ : Emb} {kt : Nat} {k : AV} {kind : TypeDesc} (hu : E.und kt = some kind) (w : World) : ∀ (es : List (AV × AV × Nat)) (i : Nat) (r : Option (Nat × AV)), findK E kt k es i = some r →
    (Instr.findAsking kt (conc φ k) (es.map (mEnt φ)) i).run P w = .ok (r.map fun p => (p.1, conc φ p.2)) w ∧
      (∀ r', Instr.findNow kind (conc φ k) (es.map (mEnt φ)) i = some r' → r' = r.map fun p => (p.1, conc φ p.2)) ∧ (∀ p, r = some p → i ≤ p.1 ∧ ∃ e, es[p.1 - i]? = some e ∧ e.2.1 = p.2 ∧ evEq E 40 kt k e.1 = some true)
  | [], i, r, h => by
    obtain rfl := Option.some.inj h
    refine ⟨by simp [Instr.findAsking], fun r' h' => ?_, fun p hp => by cases hp⟩
    simp [Instr.findNow] at h'
    simp [← h']
  | e :: es, i, r, h => by
    have h' : (match evEq E 40 kt k e.1 with
      | some true => some (some (i, e.2.1))
      | some false => findK E kt k es (Nat.succ i)
      | none => none) = some r := h
    split at h'
    · rename_i he
      obtain rfl := Option.some.inj h'
      have hq := evEq_ok hE (φ := φ) 40 kt k e.1 true he 10000 (by omega) w
      refine ⟨?_, fun r' hr => ?_, fun p hp => ?_⟩
      · have hq' : (Op.equal kt (conc φ k) (conc φ e.1)).run P w = .ok true w := hq
        rw [List.map_cons, Instr.findAsking]
        simp only [Sem.run_bind, mEnt, hq', Result.andThen_ok, if_true, Sem.run_pure]
        simp
      · rw [List.map_cons, Instr.findNow] at hr
        split at hr
        · simpa [mEnt] using hr.symm
        · rename_i hsn
          have := sameNow_eq hu he (φ := φ) hsn
          cases this
        · cases hr
      · obtain rfl := Option.some.inj hp
        exact ⟨Nat.le_refl _, e, by simp, rfl, he⟩
    · rename_i he
      have hq := evEq_ok hE (φ := φ) 40 kt k e.1 false he 10000 (by omega) w
      obtain ⟨i1, i2, i3⟩ := findK_ok hu w es (i + 1) r h'
      refine ⟨?_, fun r' hr => ?_, fun p hp => ?_⟩
      · have hq' : (Op.equal kt (conc φ k) (conc φ e.1)).run P w = .ok false w := hq
        rw [List.map_cons, Instr.findAsking]
        simp only [Sem.run_bind, mEnt, hq', Result.andThen_ok, Bool.false_eq_true, if_false]
        exact i1
      · rw [List.map_cons, Instr.findNow] at hr
        split at hr
        · rename_i hsn
          have := sameNow_eq hu he (φ := φ) hsn
          cases this
        · exact i2 r' hr
        · cases hr
      · obtain ⟨j1, e', j2, j3, j4⟩ := i3 p hp
        refine ⟨by omega, e', ?_, j3, j4⟩
        rw [show p.1 - i = (p.1 - (i + 1)) + 1 from by omega, List.getElem?_cons_succ]
        exact j2
    · cases h'
theorem findKey_ok {φ : Emb} {kt : Nat} {k : AV} {kind : TypeDesc} (hu : E.und kt = some kind) (w : World) (es : List (AV × AV × Nat)) (r : Option (Nat × AV)) (h : findK E kt k es 0 = some r) :
    (Instr.findKey kt (conc φ k) (es.map (mEnt φ))).run P w = .ok (r.map fun p => (p.1, conc φ p.2)) w := by
  obtain ⟨h1, h2, _⟩ := findK_ok hE (φ := φ) hu w es 0 r h
  unfold Instr.findKey
  simp only [Sem.run_bind, run_und hE hu, Result.andThen_ok]
  split
  · rename_i r' hr
    rw [h2 r' hr]
    simp
  · exact h1
omit hE in
theorem map_block {φ : Emb} {w : World} {l : Nat} {es : List (AV × AV × Nat)} {c : Nat} (h : OAt φ w l (.map es c)) : w.heap[φ.b l]? = some (.map (es.map (mEnt φ)).toArray c) := h
omit hE in
theorem ck_und {d kt : Nat} {k : AV} (h : ckKey E d kt k = true) : ∃ kind, E.und kt = some kind := by
  cases d with
  | zero => cases h
  | succ d =>
    have h' : ckBody E (ckKey E d) kt k = true := h
    unfold ckBody at h'
    cases hu : E.und kt with
    | none => rw [hu] at h'; cases h'
    | some kind => exact ⟨kind, rfl⟩
theorem evLookup_ok {φ : Emb} {H : Tr AObj} {N t : Nat} {m k v : AV} {ok : Bool} {w : World} (h : evLookup E t m k ok H = some v) (hh : HRel φ H N w) (hm : scv φ N m) :
    (Instr.lookup t (conc φ m) (conc φ k) ok).run P w = .ok (conc φ v) w ∧ scv φ N v := by
  unfold evLookup at h
  split at h
  · rename_i kt vt hu
    split at h
    · rename_i hck
      obtain ⟨kind, hkind⟩ := ck_und hck
      have key : ∀ (es : List (AV × AV × Nat)) (r : Option (Nat × AV)), findK E kt k es 0 = some r → (∀ e ∈ es, scv φ N e.2.1) →
          (match r with
            | some (_, u) => v = @Bool.rec (fun _ => AV) u (.tuple [u, .bool true]) ok
            | none => ∃ z, E.zero vt = some z ∧ v = @Bool.rec (fun _ => AV) z (.tuple [z, .bool false]) ok) →
          ((do
            Instr.checkKey (es.map (mEnt φ)).toArray.isEmpty 10000 kt (conc φ k)
            let (v, o) ← match ← Instr.findKey kt (conc φ k) (es.map (mEnt φ)).toArray.toList with
              | some (_, v) => pure (v, true)
              | none => do pure (← zeroValue vt, false)
            pure (if ok then .tuple #[v, .bool o] else v)) : Sem Value).run P w = .ok (conc φ v) w ∧ scv φ N v := by
        intro es r hf hsc hv
        have hfk := findKey_ok hE (φ := φ) hkind w es r hf
        obtain ⟨_, _, h3⟩ := findK_ok hE (φ := φ) hkind w es 0 r hf
        simp only [Sem.run_bind, ckKey_ok hE 8 kt k hck _ 10000 (by omega) w, Result.andThen_ok, List.toList_toArray, hfk]
        cases r with
        | none =>
          obtain ⟨z, hz, rfl⟩ := hv
          simp only [Option.map_none, Sem.run_bind, run_zero hE hz φ, Result.andThen_ok, Sem.run_pure]
          have hzs := scv_zero ((hE.zero vt z hz).2 φ) φ (N := N)
          cases ok
          · exact ⟨rfl, hzs⟩
          · exact ⟨by simp, (sc_tuple _ _ _).2 (by rw [scs, scs, scs]; exact ⟨hzs, sc_bool _ _ _, trivial⟩)⟩
        | some p =>
          obtain ⟨i, u⟩ := p
          obtain ⟨_, e, he1, he2, _⟩ := h3 (i, u) rfl
          have he2' : e.2.1 = u := he2
          have hus : scv φ N u := by rw [← he2']; exact hsc e (List.mem_of_getElem? he1)
          simp only at hv
          subst hv
          simp only [Option.map_some, Sem.run_pure, Result.andThen_ok]
          cases ok
          · exact ⟨rfl, hus⟩
          · exact ⟨by simp, (sc_tuple _ _ _).2 (by rw [scs, scs, scs]; exact ⟨hus, sc_bool _ _ _, trivial⟩)⟩
      have pick : ∀ (es : List (AV × AV × Nat)), (match findK E kt k es 0 with
        | some (some (_, v)) => some (@Bool.rec (fun _ => AV) v (.tuple [v, .bool true]) ok)
        | some none => match E.zero vt with
          | some v => some (@Bool.rec (fun _ => AV) v (.tuple [v, .bool false]) ok)
          | none => none
        | none => none) = some v → ∃ r, findK E kt k es 0 = some r ∧ (match r with
            | some (_, u) => v = @Bool.rec (fun _ => AV) u (.tuple [u, .bool true]) ok
            | none => ∃ z, E.zero vt = some z ∧ v = @Bool.rec (fun _ => AV) z (.tuple [z, .bool false]) ok) := by
        intro es hes
        split at hes
        · rename_i i u hf
          exact ⟨_, hf, (Option.some.inj hes).symm⟩
        · rename_i hf
          split at hes
          · rename_i z hz
            exact ⟨_, hf, z, hz, (Option.some.inj hes).symm⟩
          · cases hes
        · cases hes
      split at h
      · rename_i es hes
        obtain ⟨r, hf, hv⟩ := pick es h
        split at hes
        · obtain rfl := Option.some.inj hes
          have := key [] r hf (by simp) hv
          refine ⟨?_, this.2⟩
          have h1 := this.1
          simp only [Instr.lookup, Sem.run_bind, run_und hE hu, Result.andThen_ok, c_nilMap, Sem.run_pure] at h1 ⊢
          exact h1
        · rename_i l
          split at hes
          · rename_i es' c ho
            obtain rfl := Option.some.inj hes
            obtain ⟨hl, hat, hsc⟩ := hh.obj l _ ho ((sc_map _ _ _).1 hm).2
            have := key es' r hf (fun e he => (hsc e he).2) hv
            have hg := MapKept.run_getObj_map (P := P) (map_block hat)
            refine ⟨?_, this.2⟩
            have h1 := this.1
            simp only [Instr.lookup, Sem.run_bind, run_und hE hu, Result.andThen_ok, c_map, hg, Sem.run_pure] at h1 ⊢
            exact h1
          · cases hes
        · cases hes
      · cases h
    · cases h
  · cases h
end
end Go.Ev

set_option linter.unusedVariables false
set_option linter.unusedSimpArgs false
namespace Go.Ev
open Go.RowKit

theorem llast_eq : ∀ (l : List Nat), llast l = l.getLast?
  | [] => rfl
  | [a] => rfl
  | a :: b :: l => by
    have ih := llast_eq (b :: l)
    show (match llast (b :: l) with
      | some b => some b
      | none => some a) = _
    rw [ih, List.getLast?_cons_cons]
    cases h : (b :: l).getLast? with
    | none => simp at h
    | some c => rfl
theorem findBorn_ok {φ : Emb} {n : Nat} : ∀ (es : List (AV × AV × Nat)) (e : AV × AV × Nat), findBorn n es = some e → (es.map (mEnt φ)).find? (fun e => e.born == n) = some (mEnt φ e) ∧ e ∈ es
  | [], e, h => by cases h
  | x :: es, e, h => by
    have h' : (match Nat.beq x.2.2 n with
      | true => some x
      | false => findBorn n es) = some e := h
    split at h'
    · rename_i hb
      obtain rfl := Option.some.inj h'
      refine ⟨?_, List.mem_cons_self ..⟩
      rw [List.map_cons, List.find?_cons_of_pos]
      simp [mEnt, Nat.eq_of_beq_eq_true hb]
    · rename_i hb
      obtain ⟨h1, h2⟩ := findBorn_ok es e h'
      refine ⟨?_, List.mem_cons_of_mem _ h2⟩
      rw [List.map_cons, List.find?_cons_of_neg]
      · exact h1
      · intro he
        have : x.2.2 = n := by simpa [mEnt] using he
        rw [this, Nat.beq_refl] at hb
        cases hb
theorem sofc_cons (c : AV) (cs : List AV) : sofc (c :: cs) = (match c with
    | .int .u8 (.ofNat b) => match sofc cs with
      | some n => some (Nat.add (Nat.mod b 256) (Nat.mul 256 n))
      | none => none
    | _ => none) := rfl
theorem sofc_ok {φ : Emb} : ∀ (cs : List AV) (n : Nat), sofc cs = some n → ∃ ns : List Int, concs φ cs = ns.map (Value.int .u8) ∧ ns.map (fun n => UInt8.ofNat n.toNat) = sbytes cs.length n
  | [], n, h => ⟨[], by simp, rfl⟩
  | c :: cs, n, h => by
    rw [sofc_cons] at h
    split at h
    · rename_i b
      split at h
      · rename_i m hm
        obtain rfl := Option.some.inj h
        obtain ⟨ns, h1, h2⟩ := sofc_ok (φ := φ) cs m hm
        refine ⟨(Int.ofNat b) :: ns, by simp [h1], ?_⟩
        rw [List.map_cons, h2, List.length_cons, sbytes_succ]
        have e1 : (Nat.add (Nat.mod b 256) (Nat.mul 256 m)) % 256 = b % 256 := by
          show (b % 256 + 256 * m) % 256 = b % 256
          omega
        have e2 : (Nat.add (Nat.mod b 256) (Nat.mul 256 m)) / 256 = m := by
          show (b % 256 + 256 * m) / 256 = m
          have : b % 256 < 256 := Nat.mod_lt _ (by omega)
          omega
        rw [e1, e2]
        congr 1
        show UInt8.ofNat b = UInt8.ofNat (b % 256)
        apply UInt8.toNat_inj.1
        simp
      · cases h
    · cases h
theorem push_bytes : ∀ (ns : List Int) (s : ByteArray), ns.foldl (fun r n => r.push (UInt8.ofNat n.toNat)) s = ⟨s.data ++ (ns.map (fun n => UInt8.ofNat n.toNat)).toArray⟩
  | [], s => by simp
  | n :: ns, s => by
    rw [List.foldl_cons, push_bytes ns]
    apply ByteArray.ext
    simp [ByteArray.push]
section
variable {P : Program} {E : Env} (hE : EnvOk P E)
include hE
omit hE in
theorem evEntry_ok {φ : Emb} {H : Tr AObj} {N : Nat} {it v : AV} {w : World} (h : evEntry it H = some v) (hh : HRel φ H N w) (hs : scv φ N it) : (Instr.entry (conc φ it)).run P w = .ok (conc φ v) w ∧ scv φ N v := by
  unfold evEntry at h
  split at h
  · rename_i r
    split at h
    · rename_i m x seen stepped ho
      obtain ⟨hl, hat, hsc⟩ := hh.obj r _ ho ((sc_ptr _ _ _ _).1 hs).2
      obtain ⟨hs0, hblk⟩ := hat
      rw [llast_eq] at h
      split at h
      · rename_i n hn
        split at h
        · rename_i es c hm
          obtain ⟨hl2, hat2, hsc2⟩ := hh.obj m _ hm (hsc m rfl).2
          have hblk2 := map_block hat2
          split at h
          · rename_i hb
            have hb := Nat.eq_of_beq_eq_true hb
            split at h
            · rename_i e he
              obtain rfl := Option.some.inj h
              obtain ⟨h1, h2⟩ := findBorn_ok (φ := φ) es e he
              have hg2 := MapKept.run_getObj_map (P := P) hblk2
              have hg1 : (getObj (φ.b r)).run P w = .ok (.mapIter (some (φ.b m)) x seen.toArray stepped) w := by
                simp only [getObj, Sem.run, hblk]
                rfl
              refine ⟨?_, (sc_tuple _ _ _).2 (by rw [scs, scs, scs]; exact ⟨(hsc2 e h2).1, (hsc2 e h2).2, trivial⟩)⟩
              rw [c_ptr, hs0]
              have hback : seen.toArray.back? = some n := by simpa using hn
              have hfind : (es.map (mEnt φ)).toArray.find? (fun e => e.born == n) = some (mEnt φ e) := by simpa using h1
              simp only [Instr.entry, Sem.run_bind, hg1, Result.andThen_ok, hback, hg2, hb]
              simp only [bne_self_eq_false, Bool.false_eq_true, if_false, hfind, Sem.run_pure, c_tuple, cs_cons, cs_nil]
              simp [hfind, mEnt]
            · cases h
          · cases h
        · cases h
      · cases h
    · cases h
  · cases h
theorem evLenT_ok {φ : Emb} {H : Tr AObj} {N t ty : Nat} {x v : AV} {w : World} (h : evLenT E t x H = some v) (hh : HRel φ H N w) (hs : scv φ N x) (ats : List Nat) : (Builtin.len_ (t :: ats).toArray ty #[conc φ x]).run P w = .ok (conc φ v) w ∧ scv φ N v := by
  unfold evLenT at h
  split at h
  · rename_i hu
    split at h
    · obtain rfl := Option.some.inj h
      refine ⟨?_, sc_int _ _ _ _⟩
      simp [Builtin.len_, run_und hE hu, str_size, goInt]
    · cases h
  · rename_i e hu
    split at h
    · rename_i l o n u c y
      obtain rfl := Option.some.inj h
      refine ⟨?_, sc_int _ _ _ _⟩
      obtain ⟨A, c', e⟩ := c_slice φ l o n u c y
      simp [Builtin.len_, run_und hE hu, e, goInt]
    · obtain rfl := Option.some.inj h
      refine ⟨?_, sc_int _ _ _ _⟩
      simp [Builtin.len_, run_und hE hu, goInt]
    · cases h
  · rename_i k e hu
    split at h
    · obtain rfl := Option.some.inj h
      refine ⟨?_, sc_int _ _ _ _⟩
      simp [Builtin.len_, run_und hE hu, goInt]
    · rename_i l
      split at h
      · rename_i es c hm
        obtain rfl := Option.some.inj h
        refine ⟨?_, sc_int _ _ _ _⟩
        obtain ⟨hl2, hat2, hsc2⟩ := hh.obj l _ hm ((sc_map _ _ _).1 hs).2
        have hg2 := MapKept.run_getObj_map (P := P) (map_block hat2)
        simp [Builtin.len_, run_und hE hu, goInt, hg2, llen_eq]
      · cases h
    · cases h
  · rename_i n e hu
    obtain rfl := Option.some.inj h
    refine ⟨?_, sc_int _ _ _ _⟩
    simp [Builtin.len_, run_und hE hu, goInt]
  · cases h
theorem evCap_ok {φ : Emb} {N t ty : Nat} {x v : AV} (h : evCap E t x = some v) (ats : List Nat) (w : World) : (Builtin.cap_ (t :: ats).toArray ty #[conc φ x]).run P w = .ok (conc φ v) w ∧ scv φ N v := by
  unfold evCap at h
  split at h
  · rename_i e hu
    split at h
    · obtain rfl := Option.some.inj h
      refine ⟨?_, sc_int _ _ _ _⟩
      simp [Builtin.cap_, run_und hE hu, goInt]
    · obtain rfl := Option.some.inj h
      refine ⟨?_, sc_int _ _ _ _⟩
      simp [Builtin.cap_, run_und hE hu, goInt]
    · cases h
  · rename_i n e hu
    obtain rfl := Option.some.inj h
    refine ⟨?_, sc_int _ _ _ _⟩
    simp [Builtin.cap_, run_und hE hu, goInt]
  · cases h
omit hE in
/-- Where a slice's elements lie. -/
theorem slice_form {φ : Emb} {N l o len c y : Nat} {u : Bool} (hs : scv φ N (.slice l o len u c y)) : ∃ q c', conc φ (.slice l o len u c y) = .slice (some ⟨φ.b l, φ.s l + q, none⟩) len c' ∧ (0 < len → q = o) ∧ l < N ∧ φ.k l := by
  cases u with
  | false => exact ⟨o, c, c_sliceF _ _ _ _ _ _, fun _ => rfl, (sc_sliceF _ _ _ _ _ _ _).1 hs⟩
  | true =>
    obtain ⟨h1, h2, h3⟩ := (sc_sliceT _ _ _ _ _ _ _).1 hs
    refine ⟨_, _, c_sliceT _ _ _ _ _ _, fun h => ?_, h1⟩
    rw [if_neg (by omega)]
omit hE in
theorem load_slice {φ : Emb} {w : World} {l o n es' q : Nat} {u : Bool} {cs r : List AV} (ho : OAt φ w l (.cells cs es' u)) (hc : cut cs o n = some r) (hq : 0 < n → q = o) :
    (loadCells ⟨φ.b l, φ.s l + q, none⟩ n).run P w = .ok (concs φ r).toArray w := by
  obtain ⟨g1, g2⟩ := cut_eq hc
  have hrl : (concs φ r).length = n := by rw [len_concs, g2]; simp; omega
  by_cases hn : n = 0
  · subst hn
    have : r = [] := by rw [g2]; simp
    subst this
    simp [loadCells, loadCellsFrom]
  · obtain rfl := hq (by omega)
    have hload := run_loadCells_list (P := P) (w := w) ⟨φ.b l, φ.s l + q, none⟩ (concs φ r) (cut_cells ho hc)
    rw [hrl] at hload
    exact hload
theorem evConvertQ_ok {φ : Emb} {H : Tr AObj} {N N0 s d : Nat} {x : AV} {out : Out} {w : World} (h : evConvert E s d x H N0 = some out) (hd : isSliceT E d = false) (hsd : ∃ u, E.und s = some u) (hs : scv φ N x)
    (hh : isSliceT E s = true → HRel φ H N w) : (Go.convert s d (conc φ x)).run P w = .ok (conc φ out.v) w ∧ scv φ N out.v := by
  obtain ⟨us, hus⟩ := hsd
  unfold evConvert at h
  split at h
  · rename_i k hu
    split at h
    · rename_i k' n
      obtain rfl := Option.some.inj h
      refine ⟨?_, sc_int _ _ _ _⟩
      simp only [c_int, wrapF_eq]
      simp only [Go.convert, Sem.run_bind, run_und hE hu, run_und hE hus, Result.andThen_ok]
      cases us <;> simp [Conv.intToInt]
    · cases h
  · rename_i hu
    split at h
    · rename_i l n
      split at h
      · rename_i hu2
        obtain rfl := Option.some.inj h
        refine ⟨?_, sc_str _ _ _ _⟩
        simp [Go.convert, run_und hE hu, run_und hE hu2]
      · cases h
    · split at h
      · rename_i e hu2
        split at h
        · rename_i hu3
          obtain rfl := Option.some.inj h
          refine ⟨?_, sc_str _ _ _ _⟩
          simp [Go.convert, run_und hE hu, run_und hE hu2, run_und hE hu3, Conv.bytesToString, sbytes_zero]
          rfl
        · cases h
      · cases h
    · rename_i l o len u c y
      split at h
      · rename_i e hu2
        split at h
        · rename_i hu3
          split at h
          · rename_i cs es u' ho
            split at h
            · rename_i r hc
              split at h
              · rename_i n hn
                obtain rfl := Option.some.inj h
                refine ⟨?_, sc_str _ _ _ _⟩
                have hr := hh (by simp [isSliceT, hu2])
                obtain ⟨_, _, _, _, hlk⟩ := slice_form hs
                obtain ⟨hl, hat, hsc⟩ := hr.obj l _ ho hlk.2
                obtain ⟨ns, n1, n2⟩ := sofc_ok (φ := φ) r n hn
                obtain ⟨g1, g2⟩ := cut_eq hc
                have hlen : r.length = len := by rw [g2]; simp; omega
                obtain ⟨q, c', hform, hq, _⟩ := slice_form hs
                have hload := load_slice (P := P) hat hc hq
                rw [n1] at hload
                rw [hform, run_convert_bytes_string w s d e _ _ _ (hE.und s _ hu2) (hE.und e _ hu3) (hE.und d _ hu), run_bytesToString w _ len c' ns hload, push_bytes, n2, hlen]
                simp
              · cases h
            · cases h
          · cases h
        · cases h
      · cases h
    · cases h
  · rename_i e hu
    simp [isSliceT, hu] at hd
  · cases h
end
end Go.Ev

set_option linter.unusedVariables false
set_option linter.unusedSimpArgs false
namespace Go.Ev
open Go.RowKit
theorem bind1_some {x : Option AV} {f : AV → Option AV} {v : AV} (h : bind1 x f = some v) : ∃ a, x = some a ∧ f a = some v := by
  cases x with
  | none => cases h
  | some a => exact ⟨a, rfl, h⟩
theorem bindL_some {x : Option (List AV)} {f : List AV → Option AV} {v : AV} (h : bindL x f = some v) : ∃ a, x = some a ∧ f a = some v := by
  cases x with
  | none => cases h
  | some a => exact ⟨a, rfl, h⟩
theorem orec_some {α β : Type} {x : Option α} {f : α → Option β} {v : β} (h : (@Option.rec α (fun _ => Option β) none f x) = some v) : ∃ a, x = some a ∧ f a = some v := by
  cases x with
  | none => cases h
  | some a => exact ⟨a, rfl, h⟩
section
variable {P : Program} {E : Env} (hE : EnvOk P E) {φ : Emb} {N n : Nat} {ts : Tr AV} {a : Act} (ht : TRel φ N n ts a)
include hE ht
omit hE in
theorem optV_some {x : Option Operand} {f : Option AV → Option AV} {v : AV} (h : optV ts x f = some v) : ∃ y, f y = some v ∧ x.map a.eval = y.map (conc φ) ∧ (x = none ↔ y = none) := by
  cases x with
  | none => exact ⟨none, h, rfl, by simp⟩
  | some o =>
    obtain ⟨b, hb, hf⟩ := bind1_some h
    obtain ⟨e, s⟩ := oper_ok ht hb
    exact ⟨some b, hf, by simp [e], by simp⟩
/-- What an operation that only looks gives. -/
theorem evQ_ok {H : Tr AObj} {o : Oper} {v : AV} {w : World} (h : evQ E ts H o.op = some v) (hd : cls E o.op < 2) (hh : cls E o.op = 1 → HRel φ H N w) :
    (execOp a.eval o).run P w = .ok (.value (conc φ v)) w ∧ scv φ N v := by
  obtain ⟨dst, op, type, pos, after, guard⟩ := o
  simp only at h hd hh
  cases op <;> simp only [evQ] at h <;> try (cases h; done)
  case move x =>
    obtain ⟨e, s⟩ := oper_ok ht h
    exact ⟨by simp [execOp, e], s⟩
  case assign x =>
    obtain ⟨e, s⟩ := oper_ok ht h
    exact ⟨by simp [execOp, e], s⟩
  case pick c x y =>
    obtain ⟨vc, hc, h⟩ := bind1_some h
    obtain ⟨vx, hx, h⟩ := bind1_some h
    obtain ⟨vy, hy, h⟩ := bind1_some h
    obtain ⟨e1, s1⟩ := oper_ok ht hc
    obtain ⟨e2, s2⟩ := oper_ok ht hx
    obtain ⟨e3, s3⟩ := oper_ok ht hy
    unfold evPick at h
    split at h
    · obtain rfl := Option.some.inj h
      exact ⟨by simp [execOp, e1, e2, e3, asBool], s2⟩
    · obtain rfl := Option.some.inj h
      exact ⟨by simp [execOp, e1, e2, e3, asBool], s3⟩
    · cases h
  case build t ps =>
    obtain ⟨qs, hq, h⟩ := orec_some h
    obtain ⟨e, s⟩ := pairs_ok ht hq
    obtain ⟨r1, r2⟩ := evBuild_ok hE (φ := φ) h s w
    refine ⟨?_, r2⟩
    have he : (ps.map fun (i, x) => (i, a.eval x)) = (qs.map fun p => (p.1, conc φ p.2)).toArray := by
      apply Array.ext'
      simpa using e
    simp only [execOp, he, Sem.run_bind, r1, Result.andThen_ok, Sem.run_pure]
  case load t x =>
    obtain ⟨vx, hx, h⟩ := bind1_some h
    obtain ⟨e, s⟩ := oper_ok ht hx
    obtain ⟨r1, r2⟩ := evLoad_ok hE h (hh rfl) s
    exact ⟨by simp only [execOp, e, Sem.run_bind, r1, Result.andThen_ok, Sem.run_pure], r2⟩
  case nilCheck x =>
    obtain ⟨vx, hx, h⟩ := bind1_some h
    obtain ⟨e, s⟩ := oper_ok ht hx
    obtain ⟨rfl, ⟨l, o, rfl⟩ | ⟨f, p, q, rfl⟩⟩ := evNil_ok (φ := φ) h
    · exact ⟨by simp [execOp, e], s⟩
    · exact ⟨by simp [execOp, e], s⟩
  case binOp op t x y yt =>
    obtain ⟨vx, hx, h⟩ := bind1_some h
    obtain ⟨vy, hy, h⟩ := bind1_some h
    obtain ⟨e1, s1⟩ := oper_ok ht hx
    obtain ⟨e2, s2⟩ := oper_ok ht hy
    obtain ⟨r1, r2⟩ := evBin_ok hE (φ := φ) h x y w
    refine ⟨?_, scv_zero r2 φ⟩
    simp only [execOp, e1, e2]
    rw [Sem.run_bind, r1]
    simp
  case unOp op t x =>
    obtain ⟨vx, hx, h⟩ := bind1_some h
    obtain ⟨e, s⟩ := oper_ok ht hx
    obtain ⟨r1, r2⟩ := evUn_ok (P := P) (φ := φ) h w
    exact ⟨by simp only [execOp, e, Sem.run_bind, r1, Result.andThen_ok, Sem.run_pure], scv_zero r2 φ⟩
  case convert sr ds x =>
    obtain ⟨vx, hx, h⟩ := bind1_some h
    obtain ⟨e, s⟩ := oper_ok ht hx
    split at h
    · rename_i us hus
      split at h
      · rename_i out hout
        obtain rfl := Option.some.inj h
        have hd' : isSliceT E ds = false := by
          cases hq : isSliceT E ds
          · rfl
          · simp [cls, hq] at hd
        obtain ⟨r1, r2⟩ := evConvertQ_ok hE (φ := φ) (N := N) (w := w) hout hd' ⟨us, hus⟩ s (fun hs => hh (by simp [cls, hd', hs]))
        exact ⟨by simp only [execOp, e, Sem.run_bind, r1, Result.andThen_ok, Sem.run_pure], r2⟩
      · cases h
    · cases h
  case makeFunc f xs ys =>
    cases f <;> simp only at h <;> try (cases h; done)
    rename_i f
    obtain ⟨vx, hx, h⟩ := bindL_some h
    obtain ⟨vy, hy, h⟩ := bindL_some h
    obtain rfl := Option.some.inj h
    obtain ⟨e1, s1⟩ := opers_ok ht hx
    obtain ⟨e2, s2⟩ := opers_ok ht hy
    refine ⟨?_, (sc_fn _ _ _ _ _).2 ⟨s1, s2⟩⟩
    have h1 : xs.map a.eval = (concs φ vx).toArray := by apply Array.ext'; simpa using e1
    have h2 : ys.map a.eval = (concs φ vy).toArray := by apply Array.ext'; simpa using e2
    simp [execOp, h1, h2, Instr.makeFunc]
  case slice t x lo hi mx =>
    obtain ⟨vx, hx, h⟩ := bind1_some h
    obtain ⟨e, s⟩ := oper_ok ht hx
    obtain ⟨yl, h, el, nl⟩ := optV_some ht h
    obtain ⟨yh, h, eh, nh⟩ := optV_some ht h
    obtain ⟨ym, h, em, nm⟩ := optV_some ht h
    have hs : evSlice E t vx yl yh ym H = some v ∧ (yh = none → ym = none) := by
      unfold evSliceG at h
      cases ym with
      | none => exact ⟨h, fun _ => rfl⟩
      | some m =>
        cases yh with
        | none => cases h
        | some hv => exact ⟨h, fun e => by cases e⟩
    obtain ⟨r1, r2⟩ := evSlice_ok hE hs.1 (hh rfl) s hs.2
    refine ⟨?_, r2⟩
    simp only [execOp, e, el, eh, em, Sem.run_bind, r1, Result.andThen_ok, Sem.run_pure]
  case fieldAddr t x i =>
    obtain ⟨vx, hx, h⟩ := bind1_some h
    obtain ⟨e, s⟩ := oper_ok ht hx
    obtain ⟨r1, r2⟩ := evFieldAddr_ok hE h s w
    exact ⟨by simp only [execOp, e, Sem.run_bind, r1, Result.andThen_ok, Sem.run_pure], r2⟩
  case field t x i =>
    obtain ⟨vx, hx, h⟩ := bind1_some h
    obtain ⟨e, s⟩ := oper_ok ht hx
    obtain ⟨r1, r2⟩ := evField_ok hE h s w
    exact ⟨by simp only [execOp, e, Sem.run_bind, r1, Result.andThen_ok, Sem.run_pure], r2⟩
  case indexAddr t x i =>
    obtain ⟨vx, hx, h⟩ := bind1_some h
    obtain ⟨vi, hi, h⟩ := bind1_some h
    obtain ⟨e1, s1⟩ := oper_ok ht hx
    obtain ⟨e2, s2⟩ := oper_ok ht hi
    obtain ⟨r1, r2⟩ := evIndexAddr_ok hE h s1 w
    exact ⟨by simp only [execOp, e1, e2, Sem.run_bind, r1, Result.andThen_ok, Sem.run_pure], r2⟩
  case index t x i =>
    obtain ⟨vx, hx, h⟩ := bind1_some h
    obtain ⟨vi, hi, h⟩ := bind1_some h
    obtain ⟨e1, s1⟩ := oper_ok ht hx
    obtain ⟨e2, s2⟩ := oper_ok ht hi
    obtain ⟨r1, r2⟩ := evIndex_ok hE h s1 w
    exact ⟨by simp only [execOp, e1, e2, Sem.run_bind, r1, Result.andThen_ok, Sem.run_pure], r2⟩
  case lookup t x k ok =>
    obtain ⟨vx, hx, h⟩ := bind1_some h
    obtain ⟨vk, hk, h⟩ := bind1_some h
    obtain ⟨e1, s1⟩ := oper_ok ht hx
    obtain ⟨e2, s2⟩ := oper_ok ht hk
    obtain ⟨r1, r2⟩ := evLookup_ok hE h (hh rfl) s1
    exact ⟨by simp only [execOp, e1, e2, Sem.run_bind, r1, Result.andThen_ok, Sem.run_pure], r2⟩
  case extract x i =>
    obtain ⟨vx, hx, h⟩ := bind1_some h
    obtain ⟨e, s⟩ := oper_ok ht hx
    obtain ⟨r1, r2⟩ := evExtract_ok (P := P) h s w
    exact ⟨by simp only [execOp, e, Sem.run_bind, r1, Result.andThen_ok, Sem.run_pure], r2⟩
  case entry x =>
    obtain ⟨vx, hx, h⟩ := bind1_some h
    obtain ⟨e, s⟩ := oper_ok ht hx
    obtain ⟨r1, r2⟩ := evEntry_ok (P := P) h (hh rfl) s
    exact ⟨by simp only [execOp, e, Sem.run_bind, r1, Result.andThen_ok, Sem.run_pure], r2⟩
  case call c =>
    obtain ⟨callee, args, argTypes⟩ := c
    simp only at h
    cases callee <;> simp only at h <;> try (cases h; done)
    rename_i b
    obtain ⟨vs, hvs, h⟩ := bindL_some h
    obtain ⟨e, s⟩ := opers_ok ht hvs
    have he : args.map a.eval = (concs φ vs).toArray := by apply Array.ext'; simpa using e
    unfold evQB at h
    cases b <;> simp only at h <;> try (cases h; done)
    · split at h
      · rename_i t ats hat
        split at h
        · rename_i x
          rw [scs] at s
          obtain ⟨r1, r2⟩ := evCap_ok (ty := type) hE (φ := φ) (N := N) h ats w
          refine ⟨?_, r2⟩
          have hat' : argTypes = (t :: ats).toArray := by apply Array.ext'; simpa using hat
          simp only [cs_cons, cs_nil] at he
          simp only [execOp, resolve, he, Sem.run_bind, Sem.run_pure, Result.andThen_ok, invoke, builtin, hat', r1]
        · cases h
      · cases h
    · split at h
      · rename_i t ats hat
        split at h
        · rename_i x
          rw [scs] at s
          obtain ⟨r1, r2⟩ := evLenT_ok (ty := type) hE (φ := φ) (N := N) h (hh rfl) s.1 ats
          refine ⟨?_, r2⟩
          have hat' : argTypes = (t :: ats).toArray := by apply Array.ext'; simpa using hat
          simp only [cs_cons, cs_nil] at he
          simp only [execOp, resolve, he, Sem.run_bind, Sem.run_pure, Result.andThen_ok, invoke, builtin, hat', r1]
        · cases h
      · cases h
    · split at h
      · rename_i x y
        obtain ⟨r1, r2⟩ := evMax2_ok (P := P) (φ := φ) h w
        refine ⟨?_, scv_zero r2 φ⟩
        simp only [cs_cons, cs_nil] at he
        simp [execOp, resolve, he, invoke, builtin, Builtin.max_, r1]
      · cases h
    · split at h
      · rename_i x y
        obtain ⟨r1, r2⟩ := evMin2_ok (P := P) (φ := φ) h w
        refine ⟨?_, scv_zero r2 φ⟩
        simp only [cs_cons, cs_nil] at he
        simp [execOp, resolve, he, invoke, builtin, Builtin.min_, r1]
      · cases h
end
end Go.Ev

set_option linter.unusedVariables false
set_option linter.unusedSimpArgs false
namespace Go.Ev
open Go.RowKit

/-- What an operation that does something comes to. -/
def Eff (P : Program) (φ : Emb) (H : Tr AObj) (N : Nat) (w : World) (out : Out) (s : Sem Next) : Prop :=
  ∃ φ' w', (s.run P w = .ok (.value (conc φ' out.v)) w' ∨ (s.run P w = .ok .skip w' ∧ out.v = AV.undef)) ∧ HRel φ' out.H out.N w' ∧ Moves φ H N w φ' out.H out.N w' ∧ scv φ' out.N out.v
/-- The same of a value. -/
def EffV (P : Program) (φ : Emb) (H : Tr AObj) (N : Nat) (w : World) (out : Out) (s : Sem Value) : Prop :=
  ∃ φ' w', s.run P w = .ok (conc φ' out.v) w' ∧ HRel φ' out.H out.N w' ∧ Moves φ H N w φ' out.H out.N w' ∧ scv φ' out.N out.v
theorem EffV.eff {P : Program} {φ : Emb} {H : Tr AObj} {N : Nat} {w : World} {out : Out} {s : Sem Value} (h : EffV P φ H N w out s) : Eff P φ H N w out (do pure (.value (← s))) := by
  obtain ⟨φ', w', h1, h2, h3, h4⟩ := h
  exact ⟨φ', w', .inl (by simp [h1]), h2, h3, h4⟩
/-- The same of a unit. -/
def EffU (P : Program) (φ : Emb) (H : Tr AObj) (N : Nat) (w : World) (out : Out) (s : Sem Unit) : Prop :=
  ∃ φ' w', s.run P w = .ok () w' ∧ out.v = AV.undef ∧ HRel φ' out.H out.N w' ∧ Moves φ H N w φ' out.H out.N w'
theorem EffU.eff {P : Program} {φ : Emb} {H : Tr AObj} {N : Nat} {w : World} {out : Out} {s : Sem Unit} (h : EffU P φ H N w out s) : Eff P φ H N w out (do s; pure .skip) := by
  obtain ⟨φ', w', h1, h2, h3, h4⟩ := h
  exact ⟨φ', w', .inr ⟨by simp [h1], h2⟩, h3, h4, by rw [h2]; exact scv_undef _ _⟩

/-! ### Stores -/
theorem ones_cons (b : AV) (l : List AV) : ones (b :: l) = (match b with
      | .agg _ => false
      | .tuple _ => false
      | _ => ones l) := rfl
theorem concs_get (φ : Emb) (l : List AV) (i : Nat) : (concs φ l)[i]? = (l[i]?).map (conc φ) := by rw [concs_eq]; simp
theorem ones_ok : ∀ (l : List AV), ones l = true → ∀ a ∈ l, (∀ cs, a ≠ .agg cs) ∧ ∀ vs, a ≠ .tuple vs
  | [], h, a, ha => by cases ha
  | b :: l, h, a, ha => by
    have h' := h
    rw [ones_cons] at h'
    split at h'
    · cases h'
    · cases h'
    · rename_i h1 h2
      rcases List.mem_cons.1 ha with rfl | ha
      · exact ⟨fun cs e => h1 cs e, fun vs e => h2 vs e⟩
      · exact ones_ok l h' a ha
theorem one_conc (φ : Emb) {a : AV} (h : (∀ cs, a ≠ .agg cs) ∧ ∀ vs, a ≠ .tuple vs) : (conc φ a).oneCell' = true := by
  cases a with
  | agg cs => exact absurd rfl (h.1 cs)
  | tuple vs => exact absurd rfl (h.2 vs)
  | slice l o n u c x =>
    obtain ⟨A, c', e⟩ := c_slice φ l o n u c x
    rw [e]; rfl
  | bool b => rw [c_bool]; rfl
  | int k n => rw [c_int]; rfl
  | str l n => rw [c_str]; rfl
  | ptr l o => rw [c_ptr]; rfl
  | nil => rw [c_nil]; rfl
  | nilSlice => rw [c_nilSlice]; rfl
  | map l => rw [c_map]; rfl
  | nilMap => rw [c_nilMap]; rfl
  | fn f x y => rw [c_fn]; rfl
  | nilFn => rw [c_nilFn]; rfl
theorem setCell_same (w : World) (b o : Nat) (v : Value) : (w.setCell ⟨b, o, none⟩ v).os = w.os ∧ (w.setCell ⟨b, o, none⟩ v).tape = w.tape ∧ (w.setCell ⟨b, o, none⟩ v).output = w.output ∧ (w.setCell ⟨b, o, none⟩ v).heap.size = w.heap.size ∧ ∀ k, k ≠ b → (w.setCell ⟨b, o, none⟩ v).heap[k]? = w.heap[k]? :=
  ⟨rfl, rfl, rfl, by simp, fun k hk => Below.heap_setCell w ⟨b, o, none⟩ v k hk⟩
theorem setCell_block {w : World} {b o : Nat} {c : Array Value} {t : TypeId} {fr : Nat × Nat} (h : w.heap[b]? = some (.cells c t fr)) (v : Value) : (w.setCell ⟨b, o, none⟩ v).heap[b]? = some (.cells (c.setIfInBounds o v) t fr) := by
  obtain ⟨lo, hi⟩ := fr
  simp [World.setCell, Array.getElem?_modify, h]
theorem run_storeCells' {P : Program} {b o : Nat} {t : TypeId} {lo hi : Nat} : ∀ (vs : List Value) (i : Nat) (w : World) (c : Array Value), w.heap[b]? = some (.cells c t (lo, hi)) → o + i + vs.length ≤ c.size → (∀ k, k < c.size → ¬ (lo ≤ k ∧ k < hi)) → (∀ v ∈ vs, v.oneCell' = true) →
    ∃ w', (storeCells ⟨b, o, none⟩ vs i).run P w = .ok () w' ∧ (∃ c', w'.heap[b]? = some (.cells c' t (lo, hi)) ∧ c'.size = c.size ∧ ∀ j, c'[j]? = if o + i ≤ j ∧ j < o + i + vs.length then vs[j - (o + i)]? else c[j]?) ∧
      w'.os = w.os ∧ w'.tape = w.tape ∧ w'.output = w.output ∧ w'.heap.size = w.heap.size ∧ ∀ k, k ≠ b → w'.heap[k]? = w.heap[k]?
  | [], i, w, c, hb, hl, hf, h1 => ⟨w, by simp [storeCells], ⟨c, hb, rfl, fun j => by rw [if_neg (fun h => by simp at h; omega)]⟩, rfl, rfl, rfl, rfl, fun _ _ => rfl⟩
  | v :: vs, i, w, c, hb, hl, hf, h1 => by
    simp only [List.length_cons] at hl
    have hc : ∃ u, w.cell? ⟨b, o + i, none⟩ = some u := by
      rw [cell_at hb]
      exact ⟨c[o + i]'(by omega), Array.getElem?_eq_getElem (by omega)⟩
    obtain ⟨u, hc⟩ := hc
    have hfz : w.frozen? ⟨b, o + i, none⟩ = false := by
      have := hf (o + i) (by omega)
      simp [World.frozen?, hb]
      omega
    have hst : (store ((⟨b, o, none⟩ : Addr).add i) v).run P w = .ok () (w.setCell ⟨b, o + i, none⟩ v) := by
      rw [add_none, run_store P w _ v _ (h1 v (List.mem_cons_self ..)), hc]
      simp [hfz]
    obtain ⟨s1, s2, s3, s4, s5⟩ := setCell_same w b (o + i) v
    obtain ⟨w', r1, ⟨c', r2, r3, r4⟩, r5, r6, r7, r8, r9⟩ := run_storeCells' (P := P) (b := b) (o := o) (t := t) (lo := lo) (hi := hi) vs (i + 1) (w.setCell ⟨b, o + i, none⟩ v) (c.setIfInBounds (o + i) v) (setCell_block (fr := (lo, hi)) hb v) (by rw [Array.size_setIfInBounds]; omega) (by simpa using hf) (fun u hu => h1 u (List.mem_cons_of_mem _ hu))
    refine ⟨w', ?_, ⟨c', r2, by simpa using r3, fun j => ?_⟩, r5.trans s1, r6.trans s2, r7.trans s3, r8.trans s4, fun k hk => (r9 k hk).trans (s5 k hk)⟩
    · rw [storeCells]
      simp only [Sem.run_bind, hst, Result.andThen_ok]
      exact r1
    · rw [r4]
      simp only [List.length_cons]
      by_cases h0 : j = o + i
      · subst h0
        rw [if_neg (by omega), if_pos (by omega), Array.getElem?_setIfInBounds_self_of_lt (by omega)]
        simp
      · rw [Array.getElem?_setIfInBounds_ne (by omega)]
        by_cases h2 : o + (i + 1) ≤ j ∧ j < o + (i + 1) + vs.length
        · rw [if_pos h2, if_pos (by omega), show j - (o + i) = (j - (o + (i + 1))) + 1 from by omega, List.getElem?_cons_succ]
        · rw [if_neg h2, if_neg (by omega)]
/-- Cells laid over an object's. -/
theorem lay_moves {P : Program} {φ : Emb} {H : Tr AObj} {N : Nat} {w : World} {l o es : Nat} {u : Bool} {cs xs : List AV} (hh : HRel φ H N w) (ho : hget H l = some (.cells cs es u)) (hlk : φ.k l) (hl : l < 16777216) (hlen : o + xs.length ≤ cs.length) (h1 : ones xs = true) (hs : ∀ a ∈ xs, scv φ N a) :
    ∃ w', (storeCells ⟨φ.b l, φ.s l + o, none⟩ (concs φ xs)).run P w = .ok () w' ∧ HRel φ (hput H l (.cells (llay cs o xs) es u)) N w' ∧ Moves φ H N w φ (hput H l (.cells (llay cs o xs) es u)) N w' := by
  obtain ⟨hlN, ⟨c, t, lo, hi, o1, o2, o3, o4, o5⟩, hsc⟩ := hh.obj l _ ho hlk
  have hone : ∀ v ∈ concs φ xs, v.oneCell' = true := fun v hv => by
    rw [concs_eq] at hv
    obtain ⟨a, ha, rfl⟩ := List.mem_map.1 hv
    exact one_conc φ (ones_ok xs h1 a ha)
  obtain ⟨w', r1, ⟨c', r2, r3, r4⟩, r5, r6, r7, r8, r9⟩ := run_storeCells' (P := P) (o := φ.s l + o) (concs φ xs) 0 w c o1 (by rw [len_concs]; omega) o4 hone
  rw [len_concs] at r4
  refine ⟨w', r1, setObj_moves hh ho hlk hl (fun v hv => ?_) ⟨c', t, lo, hi, r2, by rw [llay_len, r3]; exact o2, fun i v hv => ?_, by rw [r3]; exact o4, by rw [llay_len, r3]; exact o5⟩ ⟨r5, r6, r7, by omega⟩ (fun k hk _ => r9 k hk)⟩
  · obtain ⟨i, hi, rfl⟩ := List.getElem_of_mem hv
    have hg := llay_get cs o xs i hlen
    rw [List.getElem?_eq_getElem hi] at hg
    split at hg
    · exact hs _ (List.mem_of_getElem? hg.symm)
    · exact hsc _ (List.mem_of_getElem? hg.symm)
  · rw [r4]
    rw [llay_get cs o xs i hlen] at hv
    by_cases hi : o ≤ i ∧ i < o + xs.length
    · rw [if_pos hi] at hv
      rw [if_pos (by omega), concs_eq, List.getElem?_map, show φ.s l + i - (φ.s l + o + 0) = i - o from by omega, hv]
      rfl
    · rw [if_neg hi] at hv
      rw [if_neg (by omega)]
      exact o3 i v hv
section
variable {P : Program} {E : Env} (hE : EnvOk P E)
include hE
theorem evStore_ok {φ : Emb} {H : Tr AObj} {N t : Nat} {a x : AV} {out : Out} {w : World} (h : evStore E t a x H N = some out) (hh : HRel φ H N w) (hN : N ≤ 16777216) (hsa : scv φ N a) (hs : scv φ N x) : EffU P φ H N w out (Instr.storeAt t (conc φ a) (conc φ x)) := by
  unfold evStore at h
  split at h
  · rename_i l o
    split at h
    · rename_i cs es u ho
      split at h
      · rename_i n hn
        split at h
        · rename_i hb
          have hb := Nat.eq_of_beq_eq_true hb
          rw [llen_eq] at hb
          split at h
          · rename_i hl
            have hl := ble_le hl
            rw [llen_eq] at hl
            split at h
            · rename_i h1
              obtain rfl := Option.some.inj h
              have hlk := ((sc_ptr _ _ _ _).1 hsa).2
              obtain ⟨hlN, _, _⟩ := hh.obj l _ ho hlk
              obtain ⟨w', r1, r2, r3⟩ := lay_moves (P := P) hh ho hlk (by omega) (xs := cellsOf x) (o := o) (by rw [← hb]; exact hl) h1 (cellsOf_sc hs)
              refine ⟨φ, w', ?_, rfl, r2, r3⟩
              simp only [Instr.storeAt, c_ptr, Instr.sureAddr, Sem.run_bind, Sem.run_pure, Result.andThen_ok, storeVar, run_size hE hn, cellsOf_conc, List.size_toArray, len_concs, hb]
              simp only [ne_eq, not_true, if_false]
              exact r1
            · cases h
          · cases h
        · cases h
      · cases h
    · cases h
  · cases h
/-! ### New objects -/
theorem evAlloc_ok {φ : Emb} {H : Tr AObj} {N t : Nat} {out : Out} {w : World} (h : evAlloc E t H N = some out) (hh : HRel φ H N w) : EffV P φ H N w out (Instr.alloc t true (.tuple #[])) := by
  unfold evAlloc at h
  split at h
  · rename_i z hz
    obtain ⟨hN, rfl⟩ := new_eq h
    have hsz : ∀ v ∈ cellsOf z, scv φ N v := fun v hv => scv_zero (cellsOf_sc ((hE.zero t z hz).2 φ) v hv) φ
    obtain ⟨r1, r2⟩ := new_cells hh hN (cellsOf z) 0 t hsz
    refine ⟨_, _, ?_, r1, r2, (sc_ptr _ _ _ _).2 ⟨Nat.lt_succ_self _, Emb.with_k _ _ _ _ _⟩⟩
    simp only [Instr.alloc, Sem.run_bind, run_zero hE hz φ, Result.andThen_ok, newVar, newRow, cellsOf_conc, run_newObj, Sem.run_pure, c_ptr]
    simp [Emb.with]
  · cases h
omit hE in
theorem evBox_ok {φ : Emb} {H : Tr AObj} {N t : Nat} {x : AV} {out : Out} {w : World} (h : evBox x H N = some out) (hh : HRel φ H N w) (hs : scv φ N x) : EffV P φ H N w out (Instr.box t (conc φ x)) := by
  unfold evBox at h
  obtain ⟨hN, rfl⟩ := new_eq h
  obtain ⟨r1, r2⟩ := new_cells hh hN (cellsOf x) 0 t (cellsOf_sc hs)
  refine ⟨_, _, ?_, r1, r2, (sc_ptr _ _ _ _).2 ⟨Nat.lt_succ_self _, Emb.with_k _ _ _ _ _⟩⟩
  simp only [Instr.box, Sem.run_bind, Result.andThen_ok, newVar, newRow, cellsOf_conc, run_newObj, Sem.run_pure, c_ptr]
  simp [Emb.with]
omit hE in
theorem flat_get {α : Type} (z : List α) : ∀ (n i : Nat), i < n * z.length → ((List.replicate n z).flatten)[i]? = z[i % z.length]?
  | 0, i, h => by omega
  | n + 1, i, h => by
    have hn : (n + 1) * z.length = n * z.length + z.length := Nat.succ_mul n z.length
    rw [List.replicate_succ, List.flatten_cons]
    by_cases hi : i < z.length
    · rw [List.getElem?_append_left hi, Nat.mod_eq_of_lt hi]
    · rw [List.getElem?_append_right (by omega), flat_get z n (i - z.length) (by omega)]
      congr 1
      exact (Nat.mod_eq_sub_mod (by omega)).symm
omit hE in
theorem rep_cells (φ : Emb) (n : Nat) (z : List AV) : ((Array.range (n * z.length)).map fun i => ((concs φ z).toArray)[i % (concs φ z).toArray.size]!) = (concs φ (lrep n z)).toArray := by
  apply Array.ext_getElem?
  intro i
  simp only [Array.getElem?_map, List.size_toArray, len_concs, List.getElem?_toArray]
  rw [lrep_eq, concs_get]
  by_cases hi : i < n * z.length
  · have hz : 0 < z.length := by
      rcases Nat.eq_zero_or_pos z.length with h | h
      · rw [h] at hi; omega
      · exact h
    have hlt : i % z.length < z.length := Nat.mod_lt _ hz
    rw [Array.getElem?_range, if_pos hi, flat_get z n i hi, List.getElem?_eq_getElem hlt]
    simp only [Option.map_some, Option.some.injEq]
    have : (concs φ z).toArray[i % z.length]? = some (conc φ z[i % z.length]) := by
      rw [get_concs, List.getElem?_eq_getElem hlt]; rfl
    rw [getElem!_pos _ _ (by simpa [len_concs] using hlt)]
    rw [Array.getElem?_eq_some_iff] at this
    exact this.2
  · rw [Array.getElem?_eq_none (by simp; omega), List.getElem?_eq_none (by simp; omega)]
    rfl
theorem evBuildSlice_ok {φ : Emb} {H : Tr AObj} {N t len : Nat} {ps : List (Nat × AV)} {out : Out} {w : World} (h : evBuildSlice E t len ps H N = some out) (hh : HRel φ H N w) (hp : ∀ p ∈ ps, scv φ N p.2) :
    EffV P φ H N w out (Instr.buildSlice t len (ps.map fun p => (p.1, conc φ p.2)).toArray) := by
  unfold evBuildSlice at h
  split at h
  · rename_i e hu
    split at h
    · rename_i n hn
      split at h
      · rename_i z hz
        split at h
        · rename_i hlt
          have hlt := blt_lt hlt
          have hlt : len * n < 16777216 := hlt
          split at h
          · rename_i hb
            have hb := Nat.eq_of_beq_eq_true hb
            rw [llen_eq] at hb
            split at h
            · rename_i cs hcs
              obtain ⟨hN, rfl⟩ := new_eq h
              have hsz : ∀ v ∈ cellsOf z, scv φ N v := fun v hv => scv_zero (cellsOf_sc ((hE.zero e z hz).2 φ) v hv) φ
              have hsr : ∀ v ∈ lrep len (cellsOf z), scv φ N v := fun v hv => by
                rw [lrep_eq] at hv
                obtain ⟨l, hl, hv⟩ := List.mem_flatten.1 hv
                rw [List.eq_of_mem_replicate hl] at hv
                exact hsz v hv
              obtain ⟨f1, f2⟩ := fill_ok (φ := φ) (N := N) ps (lrep len (cellsOf z)) cs hcs hsr hp
              obtain ⟨r1, r2⟩ := new_cells hh hN cs n e f2
              refine ⟨_, _, ?_, r1, r2, (sc_sliceF _ _ _ _ _ _ _).2 ⟨Nat.lt_succ_self _, Emb.with_k _ _ _ _ _⟩⟩
              have hle : ¬ len * n > 2 ^ 24 := by omega
              have hcells := rep_cells φ len (cellsOf z)
              rw [hb] at hcells
              have f1' : Instr.fill (fun i => some (i * n, n)) (concs φ (lrep len (cellsOf z))).toArray (ps.map fun p => (p.1, conc φ p.2)) = some (concs φ cs).toArray := f1
              by_cases h0 : len * n = 0
              · have hl0 : lrep len (cellsOf z) = [] := by
                  apply List.eq_nil_of_length_eq_zero
                  rw [lrep_eq]; simp [hb, h0]
                rw [hl0] at f1'
                simp only [cs_nil] at f1'
                simp only [Instr.buildSlice, Sem.run_bind, run_und hE hu, Result.andThen_ok, run_size hE hn, Sem.run_ite, if_neg hle, h0, if_true, Sem.run_pure]
                have e0 : (Array.map (fun x => (#[] : Array Value)[x % (#[] : Array Value).size]!) (Array.range 0)) = (#[] : Array Value) := by simp
                rw [e0]
                simp only [List.toList_toArray, f1', newRow, Sem.run_bind, run_newObj, Result.andThen_ok, Sem.run_pure, c_sliceF]
                simp [Emb.with, newRow]
              · simp only [Instr.buildSlice, Sem.run_bind, run_und hE hu, Result.andThen_ok, run_size hE hn, Sem.run_ite, if_neg hle, h0, if_false, run_zero hE hz φ, Sem.run_pure, cellsOf_conc, hcells]
                simp only [List.toList_toArray, f1', newRow, Sem.run_bind, run_newObj, Result.andThen_ok, Sem.run_pure, c_sliceF]
                simp [Emb.with, newRow]
            · cases h
          · cases h
        · cases h
      · cases h
    · cases h
  · cases h
end
end Go.Ev

set_option linter.unusedVariables false
set_option linter.unusedSimpArgs false
namespace Go.Ev
open Go.RowKit

mutual
theorem beq_eq : ∀ (a b : AV), AV.beq a b = true → a = b
  | .bool a, b, h => by cases b <;> simp [AV.beq] at h; rw [h]
  | .int k a, b, h => by
    cases b <;> simp [AV.beq] at h
    rename_i j c
    obtain ⟨h1, h2⟩ := h
    rw [ieq_eq] at h2
    rw [kindEq_eq h1, eq_of_beq h2]
  | .str a c, b, h => by cases b <;> simp [AV.beq] at h; rw [h.1, h.2]
  | .ptr a c, b, h => by cases b <;> simp [AV.beq] at h; rw [h.1, h.2]
  | .nil, b, h => by cases b <;> simp [AV.beq] at h; rfl
  | .slice p q r s t u, b, h => by
    cases b <;> simp [AV.beq] at h
    obtain ⟨⟨⟨⟨⟨h1, h2⟩, h3⟩, h4⟩, h5⟩, h6⟩ := h
    rw [h1, h2, h3, h4, h5, h6]
  | .nilSlice, b, h => by cases b <;> simp [AV.beq] at h; rfl
  | .map a, b, h => by cases b <;> simp [AV.beq] at h; rw [h]
  | .nilMap, b, h => by cases b <;> simp [AV.beq] at h; rfl
  | .fn f x y, b, h => by
    cases b <;> simp [AV.beq] at h
    obtain ⟨⟨h1, h2⟩, h3⟩ := h
    rw [h1, beqs_eq _ _ h2, beqs_eq _ _ h3]
  | .nilFn, b, h => by cases b <;> simp [AV.beq] at h; rfl
  | .agg cs, b, h => by
    cases b <;> simp [AV.beq] at h
    rw [beqs_eq _ _ h]
  | .tuple cs, b, h => by
    cases b <;> simp [AV.beq] at h
    rw [beqs_eq _ _ h]
theorem beqs_eq : ∀ (a b : List AV), AVs.beq a b = true → a = b
  | [], b, h => by cases b <;> simp [AVs.beq] at h; rfl
  | a :: l, b, h => by
    cases b <;> simp [AVs.beq] at h
    rw [beq_eq _ _ h.1, beqs_eq _ _ h.2]
end
theorem bitsOne_ok {φ : Emb} {v : AV} (h : bitsOne v = true) (n : Nat) : Instr.sameBits n (conc φ v) (conc φ v) = true := by
  unfold bitsOne at h
  split at h
  · cases n <;> simp [Instr.sameBits]
  · cases n <;> simp [Instr.sameBits]
  · cases n <;> simp [Instr.sameBits, beq_toListBytes]
  · cases h
theorem bitsAll_ok {φ : Emb} (n : Nat) : ∀ (l : List AV), bitsAll l = true → (((concs φ l).zip (concs φ l)).all fun (x, y) => Instr.sameBits n x y) = true
  | [], h => by simp
  | a :: l, h => by
    have h' : (@Bool.rec (fun _ => Bool) false (bitsAll l) (bitsOne a)) = true := h
    rw [bool_rec] at h'
    split at h'
    · rename_i hb
      simp only [cs_cons, List.zip_cons_cons, List.all_cons, Bool.and_eq_true]
      exact ⟨bitsOne_ok hb n, bitsAll_ok n l h'⟩
    · cases h'
theorem bitsOk_ok {φ : Emb} {v : AV} (h : bitsOk v = true) : Instr.sameBits 10000 (conc φ v) (conc φ v) = true := by
  unfold bitsOk at h
  split at h
  · rename_i cs
    have := bitsAll_ok (φ := φ) 9999 cs h
    simp only [c_agg, Instr.sameBits, beq_self_eq_true, Bool.true_and, List.toList_toArray]
    exact this
  · exact bitsOne_ok h _
theorem mset_eq (k v : AV) : ∀ (es : List (AV × AV × Nat)) (i : Nat), mset es k v i = es.modify i (fun e => (k, v, e.2.2))
  | [], i => by cases i <;> rfl
  | e :: es, 0 => rfl
  | e :: es, i + 1 => by
    show e :: mset es k v i = _
    rw [mset_eq k v es i]; rfl
theorem mdel_eq : ∀ (es : List (AV × AV × Nat)) (i : Nat), mdel es i = es.eraseIdx i
  | [], i => by cases i <;> rfl
  | e :: es, 0 => rfl
  | e :: es, i + 1 => by
    show e :: mdel es i = _
    rw [mdel_eq es i]; rfl
theorem erase_map {α β : Type} (f : α → β) : ∀ (l : List α) (i : Nat), (l.map f).eraseIdx i = (l.eraseIdx i).map f
  | [], i => rfl
  | a :: l, 0 => rfl
  | a :: l, i + 1 => by
    show f a :: (l.map f).eraseIdx i = f a :: (l.eraseIdx i).map f
    rw [erase_map f l i]
/-- A map that is laid anew. -/
theorem map_moves {P : Program} {φ : Emb} {H : Tr AObj} {N : Nat} {w : World} {l c c' : Nat} {es es' : List (AV × AV × Nat)} (hh : HRel φ H N w) (ho : hget H l = some (.map es c)) (hlk : φ.k l) (hl : l < 16777216) (hs : ∀ e ∈ es', scv φ N e.1 ∧ scv φ N e.2.1) :
    ∃ w', (setObj (φ.b l) (.map (es'.map (mEnt φ)).toArray c')).run P w = .ok () w' ∧ HRel φ (hput H l (.map es' c')) N w' ∧ Moves φ H N w φ (hput H l (.map es' c')) N w' := by
  obtain ⟨hlN, hat, hsc⟩ := hh.obj l _ ho hlk
  have hb := map_block hat
  refine ⟨{ w with heap := w.heap.setIfInBounds (φ.b l) (.map (es'.map (mEnt φ)).toArray c') }, ?_, ?_⟩
  · simp only [setObj, Sem.run, hb]
  · refine setObj_moves hh ho hlk hl hs ?_ ⟨rfl, rfl, rfl, by simp⟩ (fun k hk _ => ?_)
    · show (w.heap.setIfInBounds (φ.b l) _)[φ.b l]? = _
      rw [Array.getElem?_setIfInBounds_self_of_lt (Array.getElem?_eq_some_iff.1 hb).1]
      rfl
    · show (w.heap.setIfInBounds (φ.b l) _)[k]? = _
      rw [Array.getElem?_setIfInBounds_ne (by omega)]
section
variable {P : Program} {E : Env} (hE : EnvOk P E)
include hE
theorem evMapUpdate_ok {φ : Emb} {H : Tr AObj} {N t : Nat} {m k v : AV} {out : Out} {w : World} (h : evMapUpdate E t m k v H N = some out) (hh : HRel φ H N w) (hN : N ≤ 16777216) (hm : scv φ N m) (hk : scv φ N k) (hv : scv φ N v) :
    EffU P φ H N w out (Instr.mapUpdate t (conc φ m) (conc φ k) (conc φ v)) := by
  unfold evMapUpdate at h
  split at h
  · rename_i kt vt hu
    split at h
    · rename_i hck
      obtain ⟨kind, hkind⟩ := ck_und hck
      split at h
      · rename_i l
        split at h
        · rename_i es c ho
          have hlk := ((sc_map _ _ _).1 hm).2
          obtain ⟨hlN, hat, hsc⟩ := hh.obj l _ ho hlk
          have hg := MapKept.run_getObj_map (P := P) (map_block hat)
          split at h
          · rename_i i u hf
            have hfk := findKey_ok hE (φ := φ) hkind w es _ hf
            rw [lget_eq] at h
            split at h
            · rename_i e hes
              split at h
              · rename_i hbeq
                have hek := beq_eq _ _ hbeq
                split at h
                · rename_i hbits
                  obtain rfl := Option.some.inj h
                  have hsb := bitsOk_ok (φ := φ) hbits
                  have hs' : ∀ e ∈ mset es k v i, scv φ N e.1 ∧ scv φ N e.2.1 := fun x hx => by
                    rw [mset_eq] at hx
                    obtain ⟨j, hj, rfl⟩ := List.getElem_of_mem hx
                    rw [List.getElem_modify]
                    split
                    · exact ⟨hk, hv⟩
                    · exact hsc _ (List.getElem_mem _)
                  obtain ⟨w', r1, r2, r3⟩ := map_moves (P := P) (c' := c) hh ho hlk (by omega) hs'
                  refine ⟨φ, w', ?_, rfl, r2, r3⟩
                  have hkey : (((es.map (mEnt φ)).toArray[i]?).map (·.key)).getD (conc φ k) = conc φ k := by
                    simp [hes, mEnt, hek]
                  have hmod : ((es.map (mEnt φ)).toArray.modify i fun e => { e with key := conc φ k, val := conc φ v }) = ((mset es k v i).map (mEnt φ)).toArray := by
                    rw [mset_eq]
                    apply Array.ext_getElem?
                    intro j
                    simp only [Array.getElem?_modify, List.getElem?_toArray, List.getElem?_map, List.getElem?_modify]
                    by_cases hij : i = j
                    · simp only [hij, if_true]
                      cases es[j]? <;> simp [mEnt]
                    · simp only [hij, if_false]
                      cases es[j]? <;> simp [mEnt]
                  simp only [Instr.mapUpdate, Sem.run_bind, run_und hE hu, Result.andThen_ok, c_map, hg, ckKey_ok hE 8 kt k hck _ 10000 (by omega) w, List.toList_toArray, hfk, Option.map_some, hkey, Instr.keyThatStays, hsb, if_true, Sem.run_ite, Sem.run_pure]
                  rw [hmod]
                  exact r1
                · cases h
              · cases h
            · cases h
          · rename_i hf
            have hfk := findKey_ok hE (φ := φ) hkind w es _ hf
            obtain rfl := Option.some.inj h
            have hs' : ∀ e ∈ lapp es [(k, v, c)], scv φ N e.1 ∧ scv φ N e.2.1 := fun x hx => by
              rw [lapp_eq] at hx
              rcases List.mem_append.1 hx with hx | hx
              · exact hsc x hx
              · simp at hx; rw [hx]; exact ⟨hk, hv⟩
            obtain ⟨w', r1, r2, r3⟩ := map_moves (P := P) (c' := Nat.succ c) hh ho hlk (by omega) hs'
            refine ⟨φ, w', ?_, rfl, r2, r3⟩
            have hpush : ((es.map (mEnt φ)).toArray.push { key := conc φ k, val := conc φ v, born := c }) = ((lapp es [(k, v, c)]).map (mEnt φ)).toArray := by
              rw [lapp_eq]; simp [mEnt]
            simp only [Instr.mapUpdate, Sem.run_bind, run_und hE hu, Result.andThen_ok, c_map, hg, ckKey_ok hE 8 kt k hck _ 10000 (by omega) w, List.toList_toArray, hfk, Option.map_none]
            rw [hpush]
            exact r1
          · cases h
        · cases h
      · cases h
    · cases h
  · cases h
theorem evDelete_ok {φ : Emb} {H : Tr AObj} {N t ty : Nat} {m k : AV} {ats : List Nat} {out : Out} {w : World} (h : evDelete E t m k H N = some out) (hh : HRel φ H N w) (hN : N ≤ 16777216) (hm : scv φ N m) :
    EffV P φ H N w out (Builtin.delete_ (t :: ats).toArray ty #[conc φ m, conc φ k]) := by
  unfold evDelete at h
  split at h
  · rename_i kt vt hu
    split at h
    · rename_i hck
      obtain ⟨kind, hkind⟩ := ck_und hck
      split at h
      · obtain rfl := Option.some.inj h
        refine ⟨φ, w, ?_, hh, Moves.refl _ _ _ _, (sc_tuple _ _ _).2 (by rw [scs]; trivial)⟩
        simp [Builtin.delete_, run_und hE hu, ckKey_ok hE 8 kt k hck _ 10000 (by omega) w]
      · rename_i l
        split at h
        · rename_i es c ho
          have hlk := ((sc_map _ _ _).1 hm).2
          obtain ⟨hlN, hat, hsc⟩ := hh.obj l _ ho hlk
          have hg := MapKept.run_getObj_map (P := P) (map_block hat)
          split at h
          · rename_i i u hf
            have hfk := findKey_ok hE (φ := φ) hkind w es _ hf
            obtain rfl := Option.some.inj h
            have hs' : ∀ e ∈ mdel es i, scv φ N e.1 ∧ scv φ N e.2.1 := fun x hx => by
              rw [mdel_eq] at hx
              exact hsc x (List.mem_of_mem_eraseIdx hx)
            obtain ⟨w', r1, r2, r3⟩ := map_moves (P := P) (c' := c) hh ho hlk (by omega) hs'
            refine ⟨φ, w', ?_, r2, r3, (sc_tuple _ _ _).2 (by rw [scs]; trivial)⟩
            have herase : (es.map (mEnt φ)).eraseIdx i = (mdel es i).map (mEnt φ) := by rw [mdel_eq, erase_map]
            simp [Builtin.delete_, run_und hE hu, hg, ckKey_ok hE 8 kt k hck _ 10000 (by omega) w, hfk, herase, r1]
          · rename_i hf
            have hfk := findKey_ok hE (φ := φ) hkind w es _ hf
            obtain rfl := Option.some.inj h
            obtain ⟨w', r1, r2, r3⟩ := map_moves (P := P) (c' := c) hh ho hlk (by omega) hsc
            refine ⟨φ, w', ?_, r2, r3, (sc_tuple _ _ _).2 (by rw [scs]; trivial)⟩
            simp [Builtin.delete_, run_und hE hu, hg, ckKey_ok hE 8 kt k hck _ 10000 (by omega) w, hfk, r1]
          · cases h
        · cases h
      · cases h
    · cases h
  · cases h
end
end Go.Ev

set_option linter.unusedVariables false
set_option linter.unusedSimpArgs false
namespace Go.Ev
open Go.RowKit

section
variable {P : Program} {E : Env} (hE : EnvOk P E)
include hE
omit hE in
theorem new_map {φ : Emb} {H : Tr AObj} {N : Nat} {w : World} {out : Out} (h : new (.map [] 0) (fun l => .map l) H N = some out) (hh : HRel φ H N w) :
    ∃ φ', (newObj (.map #[] 0)).run P w = .ok w.heap.size (w.alloc (.map #[] 0)) ∧ conc φ' out.v = .map (some w.heap.size) ∧ HRel φ' out.H out.N (w.alloc (.map #[] 0)) ∧ Moves φ H N w φ' out.H out.N (w.alloc (.map #[] 0)) ∧ scv φ' out.N out.v := by
  obtain ⟨hN, rfl⟩ := new_eq h
  obtain ⟨r1, r2⟩ := new_moves hh hN (.map [] 0) (.map #[] 0) 0 (by intro e he; cases he) (by
    show _ = _
    simp only [Emb.with, if_true]
    exact heap_push_new w _)
  exact ⟨_, rfl, by simp [Emb.with], r1, r2, (sc_map _ _ _).2 ⟨Nat.lt_succ_self _, Emb.with_k _ _ _ _ _⟩⟩
theorem evRange_ok {φ : Emb} {H : Tr AObj} {N t : Nat} {m : AV} {out : Out} {w : World} (h : evRange E t m H N = some out) (hh : HRel φ H N w) (hm : scv φ N m) : EffV P φ H N w out (Instr.range t (conc φ m)) := by
  unfold evRange at h
  split at h
  · rename_i kt vt hu
    split at h
    · obtain ⟨hN, rfl⟩ := new_eq h
      obtain ⟨r1, r2⟩ := new_moves hh hN (.mapIter none 0 [] 0) (.mapIter none 0 #[] 0) 0 (by intro l hl; cases hl) (by
        refine ⟨by simp [Emb.with], ?_⟩
        simp only [Emb.with, if_true]
        exact heap_push_new w _)
      refine ⟨_, _, ?_, r1, r2, (sc_ptr _ _ _ _).2 ⟨Nat.lt_succ_self _, Emb.with_k _ _ _ _ _⟩⟩
      simp [Instr.range, run_und hE hu, Emb.with]
    · rename_i l
      split at h
      · rename_i es c ho
        have hlk := ((sc_map _ _ _).1 hm).2
        obtain ⟨hlN, hat, hsc⟩ := hh.obj l _ ho hlk
        have hg := MapKept.run_getObj_map (P := P) (map_block hat)
        obtain ⟨hN, rfl⟩ := new_eq h
        obtain ⟨r1, r2⟩ := new_moves hh hN (.mapIter (some l) c [] c) (.mapIter (some (φ.b l)) c #[] c) 0 (by intro l' hl; cases hl; exact ⟨hlN, hlk⟩) (by
          refine ⟨by simp [Emb.with], ?_⟩
          have : l ≠ N := by omega
          simp only [Emb.with, if_true, Option.map_some, if_neg this]
          exact heap_push_new w _)
        refine ⟨_, _, ?_, r1, r2, (sc_ptr _ _ _ _).2 ⟨Nat.lt_succ_self _, Emb.with_k _ _ _ _ _⟩⟩
        simp [Instr.range, run_und hE hu, Emb.with, hg]
      · cases h
    · cases h
  · cases h
omit hE in
theorem mem_eq (n : Nat) : ∀ (l : List Nat), mem n l = l.contains n
  | [] => rfl
  | a :: l => by
    show (@Bool.rec (fun _ => Bool) (mem n l) true (Nat.beq a n)) = _
    rw [bool_rec, mem_eq n l, List.contains_cons]
    by_cases h : a = n
    · subst h; simp [Nat.beq_refl]
    · have h1 : Nat.beq a n = false := by
        cases hb : Nat.beq a n
        · rfl
        · exact absurd (Nat.eq_of_beq_eq_true hb) h
      have h2 : (n == a) = false := by simp; omega
      rw [h1, h2]; simp
omit hE in
theorem unseen_eq (seen : List Nat) : ∀ (es : List (AV × AV × Nat)), unseen seen es = es.filter (fun e => !seen.contains e.2.2)
  | [] => rfl
  | e :: es => by
    show (@Bool.rec (fun _ => List (AV × AV × Nat)) (e :: unseen seen es) (unseen seen es) (mem e.2.2 seen)) = _
    rw [bool_rec, mem_eq, unseen_eq seen es, List.filter_cons]
    cases seen.contains e.2.2 <;> simp
omit hE in
theorem someOld_eq (last : Nat) : ∀ (es : List (AV × AV × Nat)), someOld last es = !(es.all fun e => decide (e.2.2 ≥ last))
  | [] => rfl
  | e :: es => by
    show (@Bool.rec (fun _ => Bool) (someOld last es) true (Nat.blt e.2.2 last)) = _
    rw [bool_rec, someOld_eq last es, List.all_cons]
    by_cases h : e.2.2 < last
    · have h1 : Nat.blt e.2.2 last = true := by simpa [Nat.blt_eq] using h
      have h2 : decide (e.2.2 ≥ last) = false := by simp; omega
      rw [h1, h2]; simp
    · have h1 : Nat.blt e.2.2 last = false := by
        cases hb : Nat.blt e.2.2 last
        · rfl
        · exact absurd (blt_lt hb) h
      have h2 : decide (e.2.2 ≥ last) = true := by simp; omega
      rw [h1, h2]; simp
omit hE in
theorem filter_ents (φ : Emb) (seen : List Nat) (es : List (AV × AV × Nat)) : (es.map (mEnt φ)).toArray.filter (fun e => !seen.toArray.contains e.born) = ((unseen seen es).map (mEnt φ)).toArray := by
  rw [unseen_eq]
  apply Array.ext'
  simp [List.filter_map]
  rfl
omit hE in
theorem evNext_ok {φ : Emb} {H : Tr AObj} {N ty : Nat} {it : AV} {s : Bool} {out : Out} {w : World} (h : evNext it s H N = some out) (hh : HRel φ H N w) (hN : N ≤ 16777216) (hit : scv φ N it) : EffV P φ H N w out (Instr.next (conc φ it) s ty) := by
  unfold evNext at h
  split at h
  · cases h
  · split at h
    · rename_i r
      split at h
      · rename_i since seen last ho
        obtain ⟨hlN, ⟨hs0, hblk⟩, hsc⟩ := hh.obj r _ ho ((sc_ptr _ _ _ _).1 hit).2
        obtain rfl := Option.some.inj h
        have hg1 : (getObj (φ.b r)).run P w = .ok (.mapIter none since seen.toArray last) w := by
          simp only [getObj, Sem.run, hblk]; rfl
        refine ⟨φ, w, ?_, hh, Moves.refl _ _ _ _, (sc_tuple _ _ _).2 (by rw [scs, scs]; exact ⟨sc_bool _ _ _, trivial⟩)⟩
        rw [c_ptr, hs0]
        simp [Instr.next, hg1]
      · rename_i m since seen last ho
        obtain ⟨hlN, ⟨hs0, hblk⟩, hsc⟩ := hh.obj r _ ho ((sc_ptr _ _ _ _).1 hit).2
        have hg1 : (getObj (φ.b r)).run P w = .ok (.mapIter (some (φ.b m)) since seen.toArray last) w := by
          simp only [getObj, Sem.run, hblk]; rfl
        split at h
        · rename_i es c hm
          obtain ⟨hlN2, hat2, hsc2⟩ := hh.obj m _ hm (hsc m rfl).2
          have hg2 := MapKept.run_getObj_map (P := P) (map_block hat2)
          split at h
          · rename_i hold
            have hcond : (!seen.toArray.isEmpty && !(es.map (mEnt φ)).toArray.isEmpty && (es.map (mEnt φ)).toArray.all (fun e => decide (e.born ≥ last))) = false := by
              split at hold
              · simp
              · split at hold
                · simp
                · have hall : ((es.map (mEnt φ)).toArray.all (fun e => decide (e.born ≥ last))) = es.all (fun e => decide (e.2.2 ≥ last)) := by
                    simp [List.all_map]
                    rfl
                  rw [someOld_eq] at hold
                  rw [hall]
                  cases hx : es.all (fun e => decide (e.2.2 ≥ last))
                  · simp
                  · rw [hx] at hold; cases hold
            have hleft := filter_ents φ seen es
            split at h
            · rename_i hun
              obtain rfl := Option.some.inj h
              refine ⟨φ, w, ?_, hh, Moves.refl _ _ _ _, (sc_tuple _ _ _).2 (by rw [scs, scs]; exact ⟨sc_bool _ _ _, trivial⟩)⟩
              rw [c_ptr, hs0]
              rw [hun] at hleft
              have hl0 : (es.map (mEnt φ)).toArray.filter (fun e => !seen.toArray.contains e.born) = #[] := by rw [hleft]; rfl
              simp only [Instr.next, Sem.run_bind, hg1, Result.andThen_ok, hg2, hcond, Bool.false_eq_true, if_false, hl0]
              simp [Question.forced]
            · rename_i e hun
              split at h
              · rename_i hborn
                have hborn := blt_lt hborn
                obtain rfl := Option.some.inj h
                have hes : e ∈ es := by
                  have : e ∈ unseen seen es := by rw [hun]; simp
                  rw [unseen_eq] at this
                  exact (List.mem_filter.1 this).1
                rw [hun] at hleft
                have hl1 : (es.map (mEnt φ)).toArray.filter (fun e => !seen.toArray.contains e.born) = #[mEnt φ e] := by rw [hleft]; rfl
                have hmv := setObj_moves (w' := { w with heap := w.heap.setIfInBounds (φ.b r) (.mapIter (some (φ.b m)) since (seen.toArray.push e.2.2) c) }) hh ho ((sc_ptr _ _ _ _).1 hit).2 (by omega) (o' := .mapIter (some m) since (lapp seen [e.2.2]) c) (fun l hl => hsc l hl)
                  (by
                    refine ⟨hs0, ?_⟩
                    show (w.heap.setIfInBounds (φ.b r) _)[φ.b r]? = _
                    rw [Array.getElem?_setIfInBounds_self_of_lt (Array.getElem?_eq_some_iff.1 hblk).1, lapp_eq]
                    simp) ⟨rfl, rfl, rfl, by simp⟩ (fun k hk _ => by
                    show (w.heap.setIfInBounds (φ.b r) _)[k]? = _
                    rw [Array.getElem?_setIfInBounds_ne (by omega)])
                refine ⟨φ, _, ?_, hmv.1, hmv.2, (sc_tuple _ _ _).2 (by rw [scs, scs, scs, scs]; exact ⟨sc_bool _ _ _, (hsc2 e hes).1, (hsc2 e hes).2, trivial⟩)⟩
                have hset : ∀ o, (setObj (φ.b r) o).run P w = .ok () { w with heap := w.heap.setIfInBounds (φ.b r) o } := fun o => by
                  simp only [setObj, Sem.run, hblk]
                rw [c_ptr, hs0]
                have hb2 : ¬ since ≤ e.2.2 := by omega
                simp only [Instr.next, Sem.run_bind, hg1, Result.andThen_ok, hg2, hcond, Bool.false_eq_true, if_false, hl1]
                simp [Question.forced, hborn, hb2, hset, mEnt, List.filter_cons]
              · cases h
            · cases h
          · cases h
        · cases h
      · cases h
    · cases h
end
end Go.Ev

set_option linter.unusedVariables false
set_option linter.unusedSimpArgs false
namespace Go.Ev
open Go.RowKit

theorem conc_scells (φ : Emb) : ∀ (n m : Nat), concs φ (scells n m) = (sbytes n m).map fun b => Value.int .u8 b.toNat
  | 0, m => cs_nil φ
  | n + 1, m => by
    rw [scells_succ, sbytes_succ, cs_cons, conc_scells φ n, List.map_cons, c_int]
    congr 2
    show ((m % 256 : Nat) : Int) = _
    simp
theorem scells_len : ∀ (n m : Nat), (scells n m).length = n
  | 0, m => rfl
  | n + 1, m => by rw [scells_succ, List.length_cons, scells_len n]
theorem scells_sc (φ : Emb) (N : Nat) : ∀ (n m : Nat), ∀ v ∈ scells n m, scv φ N v
  | 0, m, v, h => by
    have h' : v ∈ ([] : List AV) := h
    cases h'
  | n + 1, m, v, h => by
    rw [scells_succ] at h
    rcases List.mem_cons.1 h with rfl | h
    · exact sc_int _ _ _ _
    · exact scells_sc φ N n _ v h
/-- A block whose front is known, under a new label. -/
theorem front_moves {φ : Emb} {H : Tr AObj} {N : Nat} {w w' : World} (hh : HRel φ H N w) (hN : N < 16777216) (cs : List AV) (es cap : Nat) (t : TypeId) (tail : List Value) (lo hi : Nat) (hs : ∀ v ∈ cs, scv φ N v)
    (hb : w'.heap[w.heap.size]? = some (.cells (concs φ cs ++ tail).toArray t (lo, hi))) (hk : ∀ k, k < w.heap.size → w'.heap[k]? = w.heap[k]?) (hw : w'.os = w.os ∧ w'.tape = w.tape ∧ w'.output = w.output ∧ w.heap.size ≤ w'.heap.size)
    (hf : ∀ i, i < cs.length + tail.length → ¬ (lo ≤ i ∧ i < hi)) (h1 : cs.length ≤ cap * es) (h2 : cap * es ≤ cs.length + tail.length) :
    HRel (φ.with N w.heap.size 0 cap) (hput H N (.cells cs es true)) (N + 1) w' ∧ Moves φ H N w (φ.with N w.heap.size 0 cap) (hput H N (.cells cs es true)) (N + 1) w' := by
  refine new_moves' hh hN _ cap hs hk hw ⟨(concs φ cs ++ tail).toArray, t, lo, hi, ?_, ?_, fun i v hv => ?_, ?_, fun _ => ?_⟩
  · simp only [Emb.with, if_true]; exact hb
  · simp [Emb.with, len_concs]
  · have hv' := List.mem_of_getElem? hv
    rw [conc_same (φ.with_same N w.heap.size 0 cap) v (hs v hv')]
    have hi : i < cs.length := (List.getElem?_eq_some_iff.1 hv).1
    simp only [Emb.with, if_true, Nat.zero_add, List.getElem?_toArray]
    rw [List.getElem?_append_left (by rw [len_concs]; exact hi), concs_get, hv]
    rfl
  · simpa [len_concs] using hf
  · simp [Emb.with, len_concs]
    exact ⟨h1, h2⟩
theorem cap_cut (need old t : Nat) (e : TypeId) (h : need < 2 ^ 62) : need ≤ (Question.appendCap need old e).cut t := by
  simp only [Question.cut]
  omega

section
variable {P : Program} {E : Env} (hE : EnvOk P E)
include hE
/-- A string's bytes in a new row. -/
theorem evConvertB_ok {φ : Emb} {H : Tr AObj} {N s d : Nat} {x : AV} {out : Out} {w : World} (h : evConvert E s d x H N = some out) (hd : isSliceT E d = true) (hh : HRel φ H N w) : EffV P φ H N w out (Go.convert s d (conc φ x)) := by
  unfold evConvert at h
  split at h
  · rename_i k hu; simp [isSliceT, hu] at hd
  · rename_i hu; simp [isSliceT, hu] at hd
  · rename_i e hu
    split at h
    · rename_i l n
      split at h
      · rename_i hu2
        split at h
        · rename_i hu3
          obtain ⟨hN, rfl⟩ := new_eq h
          obtain ⟨cap, hcap⟩ : ∃ cap, cap = (Question.appendCap l 0 e).cut (w.tape w.drawn (Question.appendCap l 0 e)) := ⟨_, rfl⟩
          have hle : l ≤ cap := by rw [hcap]; exact Nat.le_add_right _ _
          obtain ⟨A, hA⟩ : ∃ A, A = (concs φ (scells l n) ++ List.replicate (cap - l) (Value.int .u8 0)).toArray := ⟨_, rfl⟩
          have hAs : A.size = cap := by rw [hA]; simp [len_concs, scells_len]; omega
          have hA' : (⟨(sbytes l n).toArray⟩ : ByteArray).data.map (fun b => Value.int .u8 b.toNat) ++ Array.replicate (cap - l) (Value.int .u8 0) = A := by
            rw [hA, conc_scells]
            apply Array.ext'
            simp
          have hfr : ((w.drew.alloc (.cells A e)).freeze ⟨w.heap.size, A.size, none⟩ 1).heap[w.heap.size]? = some (.cells A e (A.size, A.size + 1)) := by
            have h0 := heap_push_new w.drew (.cells A e)
            simp only [World.freeze, Nat.succ_ne_zero, if_false, Array.getElem?_modify, if_true]
            have h1 : (w.drew.alloc (.cells A e)).heap[w.heap.size]? = some (.cells A e (0, 0)) := h0
            rw [h1]
            simp
          have hfm := front_moves (w' := (w.drew.alloc (.cells A e)).freeze ⟨w.heap.size, A.size, none⟩ 1) hh hN (scells l n) 1 cap e (List.replicate (cap - l) (Value.int .u8 0)) A.size (A.size + 1) (scells_sc φ N l n)
            (by rw [← hA]; exact hfr)
            (fun k hk => by
              have h2 : (w.drew.alloc (.cells A e)).heap[k]? = w.heap[k]? := Below.heap_alloc w.drew (.cells A e) k hk
              simp only [World.freeze, Nat.succ_ne_zero, if_false, Array.getElem?_modify]
              rw [if_neg (by omega)]
              exact h2)
            ⟨rfl, rfl, rfl, by simp [World.freeze]⟩
            (fun i hi => by rw [hAs]; simp [scells_len] at hi; omega) (by rw [scells_len]; omega) (by rw [scells_len]; simp; omega)
          refine ⟨_, _, ?_, hfm.1, hfm.2, (sc_sliceT _ _ _ _ _ _ _).2 ⟨⟨Nat.lt_succ_self _, Emb.with_k _ _ _ _ _⟩, by simp [Emb.with]; exact hle, Nat.le_refl _⟩⟩
          have hsh : (w.drew.alloc (.cells A e)).shape? w.heap.size = some (e, A.size) := by
            have h0 : (w.drew.alloc (.cells A e)).heap[w.heap.size]? = some (.cells A e (0, 0)) := heap_push_new w.drew (.cells A e)
            unfold World.shape?
            rw [h0]
          have hconv : (Go.convert s d (conc φ (.str l n))).run P w = (Conv.stringToBytes e ⟨(sbytes l n).toArray⟩).run P w := by
            simp [Go.convert, run_und hE hu, run_und hE hu2, run_und hE hu3]
          rw [hconv]
          simp only [Conv.stringToBytes, Sem.run_bind, run_choose, str_size, Question.forced, Bool.false_eq_true, if_false, Result.andThen_ok, ← hcap, hA', newRow, run_newObj, Sem.run_pure, markStringish, run_shape]
          change Result.andThen ((match (w.drew.alloc (.cells A e)).shape? w.heap.size with
            | some (_, n) => Go.freeze { block := w.heap.size, off := n } 1
            | _ => pure () : Sem Unit).run P (w.drew.alloc (.cells A e))) _ = _
          rw [hsh]
          simp [Emb.with]
        · cases h
      · cases h
    · cases h
  · cases h
end
end Go.Ev

set_option linter.unusedVariables false
set_option linter.unusedSimpArgs false
namespace Go.Ev
open Go.RowKit

theorem growBy_le (m : Nat) : ∀ (r c : Nat), 256 ≤ c → c < 2 * m → Builtin.growBy m r c < 2 * m
  | 0, c, h, hc => hc
  | r + 1, c, h, hc => by
    unfold Builtin.growBy
    split
    · exact hc
    · rename_i h1
      exact growBy_le m r _ (by omega) (by omega)
theorem nextcap_le {need old : Nat} (h : old < need) : Builtin.nextslicecap need old ≤ 2 * need := by
  unfold Builtin.nextslicecap
  split
  · omega
  · split
    · omega
    · exact Nat.le_of_lt (growBy_le need 4 old (by omega) (by omega))
section
variable {P : Program} {E : Env} (hE : EnvOk P E)
include hE
theorem evMakeSlice_ok {φ : Emb} {H : Tr AObj} {N t : Nat} {l c : AV} {out : Out} {w : World} (h : evMakeSlice E t l c H N = some out) (hh : HRel φ H N w) : EffV P φ H N w out (Instr.makeSlice t (conc φ l) (conc φ c)) := by
  unfold evMakeSlice at h
  split at h
  · rename_i e hu
    split at h
    case h_2 => cases h
    rename_i ln hl
    split at h
    case h_2 => cases h
    rename_i cn hc
    obtain ⟨k1, rfl⟩ := natOf_ok hl
    obtain ⟨k2, rfl⟩ := natOf_ok hc
    split at h
    case h_2 => cases h
    rename_i hle
    have hle := ble_le hle
    split at h
    case h_2 => cases h
    rename_i hlt
    have hlt := blt_lt hlt
    split at h
    case h_2 => cases h
    rename_i n hn
    split at h
    case h_2 => cases h
    rename_i b hb
    split at h
    case h_2 => cases h
    rename_i hlt2
    have hlt2 := blt_lt hlt2
    have hlt2 : cn * b < 16777216 := hlt2
    split at h
    case h_2 => cases h
    rename_i z hz
    split at h
    case h_2 => cases h
    rename_i hq
    have hq := Nat.eq_of_beq_eq_true hq
    rw [llen_eq] at hq
    obtain ⟨hN, rfl⟩ := new_eq h
    have hsz : ∀ v ∈ cellsOf z, scv φ N v := fun v hv => scv_zero (cellsOf_sc ((hE.zero e z hz).2 φ) v hv) φ
    have hsr : ∀ v ∈ lrep cn (cellsOf z), scv φ N v := fun v hv => by
      rw [lrep_eq] at hv
      obtain ⟨l, hl, hv⟩ := List.mem_flatten.1 hv
      rw [List.eq_of_mem_replicate hl] at hv
      exact hsz v hv
    obtain ⟨r1, r2⟩ := new_cells hh hN (lrep cn (cellsOf z)) n e hsr
    refine ⟨_, _, ?_, r1, r2, (sc_sliceF _ _ _ _ _ _ _).2 ⟨Nat.lt_succ_self _, Emb.with_k _ _ _ _ _⟩⟩
    obtain ⟨ti, hti, htb⟩ := run_info hE hb w
    have hw1 : IntKind.i64.wrap (Int.ofNat ln) = (ln : Int) := by
      have : IntKind.i64.wrap (Int.ofNat ln) = back .i64 ln := by rw [back_eq .i64 ln (by simp [two]; omega)]; rfl
      rw [this]
      have h3 : Nat.ble 9223372036854775808 ln = false := by
        cases hx : Nat.ble 9223372036854775808 ln
        · rfl
        · have := ble_le hx; omega
      simp [back, sgn, half, h3]
    have hw2 : IntKind.i64.wrap (Int.ofNat cn) = (cn : Int) := by
      have : IntKind.i64.wrap (Int.ofNat cn) = back .i64 cn := by rw [back_eq .i64 cn (by simp [two]; omega)]; rfl
      rw [this]
      have h3 : Nat.ble 9223372036854775808 cn = false := by
        cases hx : Nat.ble 9223372036854775808 cn
        · rfl
        · have := ble_le hx; omega
      simp [back, sgn, half, h3]
    have htl : (decide ((cn : Int) < 0) || decide ((ti.bytes : Int) * (cn : Int) > 2 ^ 48)) = false := by
      rw [htb]
      have : ((b : Int) * (cn : Int)) = ((cn * b : Nat) : Int) := by rw [Nat.mul_comm]; simp
      rw [this]
      simp
      omega
    have hcells := rep_cells φ cn (cellsOf z)
    rw [hq] at hcells
    have hcond : ((decide ((cn : Int) < 0) || decide ((ti.bytes : Int) * (cn : Int) > 2 ^ 48) || decide ((ln : Int) < 0) || decide ((ln : Int) > (cn : Int)))) = false := by
      rw [htl]
      simp
      omega
    simp only [Instr.makeSlice, Sem.run_bind, run_und hE hu, Result.andThen_ok, c_int, asInt, asIntOf, Sem.run_pure, hti, hw1, hw2, Sem.run_ite]
    rw [if_neg (by
      have := hcond
      simp only [Bool.or_eq_true, decide_eq_true_eq, Bool.or_eq_false_iff, decide_eq_false_iff_not] at this ⊢
      rintro ((h1 | h1) | h1)
      · exact h1.elim this.1.1.1 this.1.1.2
      · exact this.1.2 h1
      · exact this.2 h1)]
    simp only [run_askRoom, Result.andThen_ok, run_size hE hn, Int.toNat_natCast]
    by_cases h0 : cn * n = 0
    · have hl0 : lrep cn (cellsOf z) = [] := by
        apply List.eq_nil_of_length_eq_zero
        rw [lrep_eq]; simp [hq, h0]
      rw [hl0]
      have e0 : (Array.map (fun x => (#[] : Array Value)[x % (#[] : Array Value).size]!) (Array.range 0)) = (#[] : Array Value) := by simp
      simp only [h0, if_true, Sem.run_pure, Result.andThen_ok, newRow, Sem.run_bind, run_newObj, e0]
      simp [Emb.with]
    · simp only [h0, if_false, Sem.run_bind, run_zero hE hz φ, Sem.run_pure, Result.andThen_ok, cellsOf_conc, hcells, newRow, run_newObj]
      simp [Emb.with]
  · cases h
/-! ### Append, copy, clear -/
omit hE in
theorem source_ok {φ : Emb} {H : Tr AObj} {N n es : Nat} {x : AV} {add : List AV} {w : World} (h : source n x es H = some add) (hl : longOf x = some n) (hh : HRel φ H N w) (hs : scv φ N x) :
    (Builtin.firstCells es n (conc φ x)).run P w = .ok (concs φ add).toArray w ∧ add.length = n * es ∧ ∀ v ∈ add, scv φ N v := by
  unfold source at h
  split at h
  · rename_i l m
    obtain rfl := Option.some.inj hl
    split at h
    · rename_i he
      have he := Nat.eq_of_beq_eq_true he
      subst he
      obtain rfl := Option.some.inj h
      refine ⟨?_, by rw [scells_len, Nat.mul_one], scells_sc φ N l m⟩
      have hex : (⟨(sbytes l m).toArray⟩ : ByteArray).extract 0 l = ⟨(sbytes l m).toArray⟩ := by
        rw [str_extract l m 0 l (Nat.zero_le _) (Nat.le_refl _)]
        simp
      simp only [c_str, Builtin.firstCells, hex, Sem.run_pure, conc_scells]
      simp
    · cases h
  · obtain rfl := Option.some.inj h
    obtain rfl := Option.some.inj hl
    exact ⟨by simp [Builtin.firstCells], by simp, by simp⟩
  · rename_i b o len u c y
    obtain rfl := Option.some.inj hl
    split at h
    · rename_i cs es' u' ho
      obtain ⟨q, c', hf, hq, _, hbk⟩ := slice_form hs
      obtain ⟨hlN, hat, hsc⟩ := hh.obj b _ ho hbk
      obtain ⟨g1, g2⟩ := cut_eq h
      have g1 : o + len * es ≤ cs.length := g1
      have g2 : add = (cs.drop o).take (len * es) := g2
      refine ⟨?_, by rw [g2]; simp; omega, fun v hv => ?_⟩
      · rw [hf]
        have hload := load_slice (P := P) hat h (q := q) (fun hp => hq (by
          rcases Nat.eq_zero_or_pos len with h0 | h0
          · subst h0; simp at hp
          · exact h0))
        exact hload
      · rw [g2] at hv
        exact hsc v (List.mem_of_mem_drop (List.mem_of_mem_take hv))
    · cases h
  · cases h
omit hE in
theorem longOf_ok {φ : Emb} {x : AV} {n : Nat} (h : longOf x = some n) (w : World) : (Builtin.lenOf (conc φ x)).run P w = .ok n w := by
  unfold longOf at h
  split at h
  · obtain rfl := Option.some.inj h; simp [Builtin.lenOf, str_size]
  · obtain rfl := Option.some.inj h; simp [Builtin.lenOf]
  · rename_i b o l u c y
    obtain rfl := Option.some.inj h
    obtain ⟨A, c', e⟩ := c_slice φ b o l u c y
    simp [e, Builtin.lenOf]
  · cases h
omit hE in
theorem not_int (d : TypeDesc) (hd : ∀ k, d ≠ .int k) : (match d with
      | .int _ => true
      | _ => false) = false := by cases d <;> first | rfl | exact absurd rfl (hd _)
/-- Append where there is room. -/
theorem append_in {t xt ty e es n len cap : Nat} {d : TypeDesc} {x : Value} {base : Option Addr} {new : Array Value} (hu : E.und t = some (.slice e)) (hx : E.und xt = some d) (hd : ∀ k, d ≠ .int k) (he : E.size e = some es)
    {w w' : World} (hl : ∀ w, (Builtin.lenOf x).run P w = .ok n w) (hf : (Builtin.firstCells es n x).run P w = .ok new w) (hcap : len + n ≤ cap)
    (hst : match base with | some a => (storeCells (a.add (len * es)) new.toList).run P w = .ok () w' | none => w' = w) (ats : List Nat) :
    (Builtin.append_ (t :: xt :: ats).toArray ty #[.slice base len cap, x]).run P w = .ok (.slice base (len + n) cap) w' := by
  have hz := not_int d hd
  have g0 : (t :: xt :: ats).toArray[0]? = some t := rfl
  have g1 : (t :: xt :: ats).toArray[1]? = some xt := rfl
  have g2 : (#[Value.slice base len cap, x] : Array Value)[0]? = some (.slice base len cap) := rfl
  have g3 : (#[Value.slice base len cap, x] : Array Value)[1]? = some x := rfl
  simp only [Builtin.append_, g0, g1, g2, g3, Sem.run_bind, run_und hE hu, run_und hE hx, Result.andThen_ok, run_size hE he, Sem.run_pure, hz, Bool.false_eq_true, if_false, Bool.not_false, if_true, hl, if_pos hcap, hf]
  cases base with
  | none =>
    simp only at hst
    subst hst
    rfl
  | some a =>
    simp only at hst
    simp only [Sem.run_bind, hst, Result.andThen_ok, Sem.run_pure]
/-- Append where there is none. -/
theorem append_new {t xt ty e es n len cap by_ : Nat} {d : TypeDesc} {x : Value} {base : Option Addr} {old new : Array Value} {z : AV} (hu : E.und t = some (.slice e)) (hx : E.und xt = some d) (hd : ∀ k, d ≠ .int k) (he : E.size e = some es) (hb : E.bytes e = some by_) (hzr : E.zero e = some z)
    {w : World} (φ : Emb) (hl : ∀ w, (Builtin.lenOf x).run P w = .ok n w) (hf : (Builtin.firstCells es n x).run P w.drew = .ok new w.drew) (ho : (Builtin.firstCells es len (.slice base len cap)).run P w.drew = .ok old w.drew) (hcap : ¬ len + n ≤ cap)
    (hsm : len + n < 16777216) (hsm2 : (len + n) * by_ < 16777216) (ats : List Nat) :
    (Builtin.append_ (t :: xt :: ats).toArray ty #[.slice base len cap, x]).run P w =
      .ok (.slice (some ⟨w.heap.size, 0, none⟩) (len + n) ((Question.appendCap (len + n) cap e).cut (w.tape w.drawn (Question.appendCap (len + n) cap e))))
        (w.drew.alloc (.cells (old ++ new ++ Builtin.zeroCells (concs φ (cellsOf z)).toArray ((Question.appendCap (len + n) cap e).cut (w.tape w.drawn (Question.appendCap (len + n) cap e)) - (len + n))) e)) := by
  obtain ⟨i, hi1, hi2⟩ : ∃ i, (∀ w, (typeInfo e).run P w = .ok i w) ∧ i.bytes = by_ := by
    obtain ⟨i, h1, h2⟩ := hE.bytes e by_ hb
    exact ⟨i, fun w => by simp [typeInfo, h1], h2⟩
  have hn1 : ¬ (((len + n : Nat) : Int) > IntKind.i64.max ∧ (False ∨ i.bytes = 0)) := by
    have : IntKind.i64.max = 9223372036854775807 := by decide
    rw [this]; omega
  have hn2 : ¬ Builtin.nextslicecap (len + n) cap * i.bytes > 2 ^ 48 := by
    have h1 := nextcap_le (need := len + n) (old := cap) (by omega)
    rw [hi2]
    have h2 : Builtin.nextslicecap (len + n) cap * by_ ≤ 2 * (len + n) * by_ := Nat.mul_le_mul_right _ h1
    have h3 : 2 * (len + n) * by_ = 2 * ((len + n) * by_) := Nat.mul_assoc _ _ _
    omega
  have hzz := run_zero hE hzr φ
  have hcc := cellsOf_conc φ z
  have hz := not_int d hd
  have g0 : (t :: xt :: ats).toArray[0]? = some t := rfl
  have g1 : (t :: xt :: ats).toArray[1]? = some xt := rfl
  have g2 : (#[Value.slice base len cap, x] : Array Value)[0]? = some (.slice base len cap) := rfl
  have g3 : (#[Value.slice base len cap, x] : Array Value)[1]? = some x := rfl
  have hch : (choose (.appendCap (len + n) cap e)).run P w = .ok ((Question.appendCap (len + n) cap e).cut (w.tape w.drawn (Question.appendCap (len + n) cap e))) w.drew := by
    rw [run_choose]; rfl
  simp only [Builtin.append_, g0, g1, g2, g3, Sem.run_bind, run_und hE hu, run_und hE hx, Result.andThen_ok, run_size hE he, Sem.run_pure, hz, Bool.false_eq_true, if_false, Bool.not_false, if_true, hl, if_neg hcap, hi1]
  rw [if_neg hn1]
  simp only [Sem.run_bind, hi1, Result.andThen_ok, if_neg hn2, hch, run_askRoom, ho, hf, hzz, Sem.run_pure, hcc, newRow, run_newObj]
  rfl
end
end Go.Ev

set_option linter.unusedVariables false
set_option linter.unusedSimpArgs false
namespace Go.Ev
open Go.RowKit

theorem concs_app (φ : Emb) (l m : List AV) : concs φ (l ++ m) = concs φ l ++ concs φ m := by rw [concs_eq, concs_eq, concs_eq, List.map_append]
theorem sumcells_len (z : Array Value) (k : Nat) : (Builtin.zeroCells z k).size = k * z.size := by simp [Builtin.zeroCells]
section
variable {P : Program} {E : Env} (hE : EnvOk P E)
include hE
/-- A new row behind an append. -/
theorem grown_new {φ : Emb} {H : Tr AObj} {N t xt ty e es n len cap by_ : Nat} {d : TypeDesc} {x : Value} {base : Option Addr} {old add : List AV} {z : AV} (hu : E.und t = some (.slice e)) (hx : E.und xt = some d) (hd : ∀ k, d ≠ .int k) (he : E.size e = some es) (hb : E.bytes e = some by_) (hzr : E.zero e = some z) (hzl : (cellsOf z).length = es)
    {w : World} {out : Out} (hl : ∀ w, (Builtin.lenOf x).run P w = .ok n w) (hf : (Builtin.firstCells es n x).run P w.drew = .ok (concs φ add).toArray w.drew) (ho : (Builtin.firstCells es len (.slice base len cap)).run P w.drew = .ok (concs φ old).toArray w.drew) (hcap : ¬ len + n ≤ cap)
    (hsm : len + n < 16777216) (hsm2 : (len + n) * by_ < 16777216) (hol : old.length = len * es) (hal : add.length = n * es) (hos : ∀ v ∈ old, scv φ N v) (has : ∀ v ∈ add, scv φ N v) (hh : HRel φ H N w) (h : grown old add es (len + n) H N = some out) (ats : List Nat) :
    EffV P φ H N w out (Builtin.append_ (t :: xt :: ats).toArray ty #[.slice base len cap, x]) := by
  have happ := append_new hE (ty := ty) hu hx hd he hb hzr φ hl hf ho hcap hsm hsm2 ats
  obtain ⟨C, hC⟩ : ∃ C, C = (Question.appendCap (len + n) cap e).cut (w.tape w.drawn (Question.appendCap (len + n) cap e)) := ⟨_, rfl⟩
  have hCle : len + n ≤ C := by rw [hC]; exact Nat.le_add_right _ _
  rw [← hC] at happ
  unfold grown at h
  obtain ⟨hN, rfl⟩ := new_eq h
  have hlen : (lapp old add).length = (len + n) * es := by rw [lapp_eq, List.length_append, hol, hal, Nat.add_mul]
  have htail : (Builtin.zeroCells (concs φ (cellsOf z)).toArray (C - (len + n))).toList.length = (C - (len + n)) * es := by
    rw [Array.length_toList, sumcells_len]; simp [len_concs, hzl]
  have harr : (concs φ old).toArray ++ (concs φ add).toArray ++ Builtin.zeroCells (concs φ (cellsOf z)).toArray (C - (len + n)) = (concs φ (lapp old add) ++ (Builtin.zeroCells (concs φ (cellsOf z)).toArray (C - (len + n))).toList).toArray := by
    rw [lapp_eq, concs_app]
    apply Array.ext'
    simp
  rw [harr] at happ
  have hsum : (len + n) * es + (C - (len + n)) * es = C * es := by rw [← Nat.add_mul]; congr 1; omega
  have hfm := front_moves (w' := w.drew.alloc (.cells (concs φ (lapp old add) ++ (Builtin.zeroCells (concs φ (cellsOf z)).toArray (C - (len + n))).toList).toArray e)) hh hN (lapp old add) es C e (Builtin.zeroCells (concs φ (cellsOf z)).toArray (C - (len + n))).toList 0 0
    (fun v hv => by
      rw [lapp_eq] at hv
      rcases List.mem_append.1 hv with hv | hv
      · exact hos v hv
      · exact has v hv)
    (heap_push_new w.drew _) (fun k hk => Below.heap_alloc w.drew _ k hk) ⟨rfl, rfl, rfl, by simp⟩ (fun i _ => by omega)
    (by rw [hlen]; exact Nat.mul_le_mul_right _ hCle) (by rw [hlen, htail]; omega)
  refine ⟨_, _, ?_, hfm.1, hfm.2, (sc_sliceT _ _ _ _ _ _ _).2 ⟨⟨Nat.lt_succ_self _, Emb.with_k _ _ _ _ _⟩, by simp [Emb.with]; exact hCle, Nat.le_refl _⟩⟩
  rw [happ]
  simp [Emb.with]
omit hE in
theorem old_ok {φ : Emb} {H : Tr AObj} {N b o len es es' q cap : Nat} {u : Bool} {cs old : List AV} {w : World} (hh : HRel φ H N w) (ho : hget H b = some (.cells cs es' u)) (hbk : φ.k b) (hc : cut cs o (Nat.mul len es) = some old) (hq : 0 < len → q = o) :
    (Builtin.firstCells es len (.slice (some ⟨φ.b b, φ.s b + q, none⟩) len cap)).run P w = .ok (concs φ old).toArray w ∧ old.length = len * es ∧ (∀ v ∈ old, scv φ N v) ∧ o + len * es ≤ cs.length := by
  obtain ⟨hlN, hat, hsc⟩ := hh.obj b _ ho hbk
  obtain ⟨g1, g2⟩ := cut_eq hc
  have g1 : o + len * es ≤ cs.length := g1
  have g2 : old = (cs.drop o).take (len * es) := g2
  refine ⟨?_, by rw [g2]; simp; omega, fun v hv => ?_, g1⟩
  · exact load_slice (P := P) hat hc (q := q) (fun hp => hq (by
      rcases Nat.eq_zero_or_pos len with h0 | h0
      · subst h0
        have hp' : 0 < 0 * es := hp
        simp at hp'
      · exact h0))
  · rw [g2] at hv
    exact hsc v (List.mem_of_mem_drop (List.mem_of_mem_take hv))
set_option maxHeartbeats 1000000 in
theorem append_room {φ : Emb} {H : Tr AObj} {N t xt ty e es n len c q b o x' : Nat} {d : TypeDesc} {x : Value} {old add cs : List AV} (hu : E.und t = some (.slice e)) (hxt : E.und xt = some d) (hd : ∀ k, d ≠ .int k) (hes : E.size e = some es)
    {w : World} {out : Out} (hlo : ∀ w, (Builtin.lenOf x).run P w = .ok n w) (hf : (Builtin.firstCells es n x).run P w = .ok (concs φ add).toArray w) (hh : HRel φ H N w) {u' : Bool} (ho : hget H b = some (.cells cs es u')) (hbk : φ.k b) (hu' : u' = true) (hoc : o = c * es)
    (hs2 : len + c ≤ φ.c b) (hs3 : x' ≤ o) (hqn : φ.c b ≠ c → q = o) (hqe : φ.c b = c → q = x') (hql : 0 < len → q = o) (hold : cut cs o (Nat.mul len es) = some old) (p2 : old.length = len * es) (p3 : ∀ v ∈ old, scv φ N v) (hal : add.length = n * es) (has : ∀ v ∈ add, scv φ N v) (hone : ones add = true)
    (hroom : len + n ≤ φ.c b - c) (h : grown old add es (len + n) (hkill H b) N = some out) (ats : List Nat) :
    EffV P φ H N w out (Builtin.append_ (t :: xt :: ats).toArray ty #[.slice (some ⟨φ.b b, φ.s b + q, none⟩) len (φ.c b - c), x]) := by
  obtain ⟨hlN, ⟨cc, tt, lo, hi, o1, o2, o3, o4, o5⟩, hsc⟩ := hh.obj b _ ho hbk
  obtain ⟨o6, o7⟩ := o5 hu'
  obtain ⟨g1, g2⟩ := cut_eq hold
  have g1 : o + len * es ≤ cs.length := g1
  have hadd' : (⟨φ.b b, φ.s b + q, none⟩ : Addr).add (len * es) = ⟨φ.b b, φ.s b + q + len * es, none⟩ := add_none _ _ _
  unfold grown at h
  obtain ⟨hN', rfl⟩ := new_eq h
  have hlen : (lapp old add).length = (len + n) * es := by rw [lapp_eq, List.length_append, p2, hal, Nat.add_mul]
  have hone' : ∀ v ∈ concs φ add, v.oneCell' = true := fun v hv => by
    rw [concs_eq] at hv
    obtain ⟨a, ha, rfl⟩ := List.mem_map.1 hv
    exact one_conc φ (ones_ok add hone a ha)
  have hcsum : c * es + (φ.c b - c) * es = φ.c b * es := by rw [← Nat.add_mul]; congr 1; omega
  have hsz : φ.s b + q + (φ.c b - c) * es ≤ cc.size := by
    by_cases hz0 : φ.c b = c
    · rw [hqe hz0, hz0, Nat.sub_self, Nat.zero_mul]
      have : c * es ≤ φ.c b * es := Nat.mul_le_mul_right _ (by omega)
      omega
    · rw [hqn hz0]; omega
  have hrm : (len + n) * es ≤ (φ.c b - c) * es := Nat.mul_le_mul_right _ hroom
  rw [Nat.add_mul] at hrm
  obtain ⟨w', r1, ⟨c', r2, r3, r4⟩, r5, r6, r7, r8, r9⟩ := run_storeCells' (P := P) (b := φ.b b) (o := φ.s b + q + len * es) (t := tt) (lo := lo) (hi := hi) (concs φ add) 0 w cc o1 (by rw [len_concs, hal]; omega) o4 hone'
  rw [len_concs, hal] at r4
  have hov := over_moves (w' := w') hh ho hbk hN' (.cells (lapp old add) es true) (φ.s b + q) (φ.c b - c)
    (fun v hv => by
      rw [lapp_eq] at hv
      rcases List.mem_append.1 hv with hv | hv
      · exact p3 v hv
      · exact has v hv)
    r9 ⟨r5, r6, r7, by omega⟩
    (by
      have hsame := φ.with_same N (φ.b b) (φ.s b + q) (φ.c b - c)
      refine ⟨c', tt, lo, hi, ?_, ?_, fun i v hv => ?_, ?_, fun _ => ?_⟩
      · simp only [Emb.with, if_true]; exact r2
      · simp only [Emb.with, if_true]; rw [hlen, r3, Nat.add_mul]; omega
      · simp only [Emb.with, if_true]
        have hmem := List.mem_of_getElem? hv
        have hsv : scv φ N v := by
          rw [lapp_eq] at hmem
          rcases List.mem_append.1 hmem with hm | hm
          · exact p3 v hm
          · exact has v hm
        have hcs := conc_same hsame v hsv
        simp only [Emb.with] at hcs
        rw [hcs, r4]
        rw [lapp_eq] at hv
        by_cases hi' : i < old.length
        · rw [List.getElem?_append_left hi'] at hv
          rw [p2] at hi'
          rw [if_neg (by omega)]
          have hlen0 : 0 < len := by
            rcases Nat.eq_zero_or_pos len with e0 | e0
            · subst e0; simp at hi'
            · exact e0
          rw [hql hlen0]
          have g2 : old = (cs.drop o).take (len * es) := g2
          rw [g2, List.getElem?_take_of_lt hi', List.getElem?_drop] at hv
          rw [show φ.s b + o + i = φ.s b + (o + i) from by omega]
          exact o3 _ v hv
        · rw [List.getElem?_append_right (by omega)] at hv
          have hi2 := (List.getElem?_eq_some_iff.1 hv).1
          rw [p2] at hi' hv hi2
          rw [if_pos (by omega), concs_get, show φ.s b + q + i - (φ.s b + q + len * es + 0) = i - len * es from by omega, hv]
          rfl
      · rw [r3]; exact o4
      · simp only [Emb.with, if_true]; rw [hlen, r3, Nat.add_mul]; exact ⟨by omega, hsz⟩)
  refine ⟨_, w', ?_, hov.1, hov.2, (sc_sliceT _ _ _ _ _ _ _).2 ⟨⟨Nat.lt_succ_self _, Emb.with_k _ _ _ _ _⟩, by simp [Emb.with]; exact hroom, Nat.le_refl _⟩⟩
  have := append_in hE (ty := ty) (base := some ⟨φ.b b, φ.s b + q, none⟩) (len := len) (cap := φ.c b - c) (w' := w') hu hxt hd hes hlo hf hroom (by
    show (storeCells ((⟨φ.b b, φ.s b + q, none⟩ : Addr).add (len * es)) (concs φ add).toArray.toList).run P w = _
    rw [hadd']
    exact r1) ats
  rw [this]
  simp [Emb.with]

set_option maxHeartbeats 1000000 in
theorem evAppend_ok {φ : Emb} {H : Tr AObj} {N t xt ty : Nat} {s x : AV} {out : Out} {w : World} (h : evAppend E t xt s x H N = some out) (hh : HRel φ H N w) (hN : N ≤ 16777216) (hs : scv φ N s) (hx : scv φ N x) (ats : List Nat) :
    EffV P φ H N w out (Builtin.append_ (t :: xt :: ats).toArray ty #[conc φ s, conc φ x]) := by
  unfold evAppend at h
  split at h
  case h_2 => cases h
  rename_i e hu
  split at h
  · cases h
  case h_3 => cases h
  rename_i d hni hxt
  have hd : ∀ k, d ≠ .int k := fun k e => hni k e
  split at h
  · cases h
  case h_3 => cases h
  rename_i es hes0 hes
  have hes1 : 0 < es := by
    rcases Nat.eq_zero_or_pos es with e0 | e0
    · exact absurd e0 hes0
    · exact e0
  split at h
  case h_2 => cases h
  rename_i by_ hby
  split at h
  case h_2 => cases h
  rename_i z hz
  split at h
  case h_2 => cases h
  rename_i hzl
  have hzl := Nat.eq_of_beq_eq_true hzl
  rw [llen_eq] at hzl
  split at h
  case h_2 => cases h
  rename_i n hn
  split at h
  case h_2 => cases h
  rename_i add hadd
  have hlo := fun w => longOf_ok (P := P) (φ := φ) hn w
  obtain ⟨hf, hal, has⟩ := source_ok (P := P) hadd hn hh hx
  obtain ⟨hfd, _, _⟩ := source_ok (P := P) hadd hn hh.drew hx
  unfold appTo at h
  split at h
  · -- a nil slice
    cases n with
    | zero =>
      simp only at h
      obtain rfl := Option.some.inj h
      refine ⟨φ, w, ?_, hh, Moves.refl _ _ _ _, sc_nilSlice _ _⟩
      simp only [c_nilSlice]
      exact append_in hE (base := none) hu hxt hd hes hlo hf (by omega) rfl ats
    | succ n =>
      simp only at h
      split at h
      case h_2 => cases h
      rename_i hb1
      have hb1 := blt_lt hb1
      have hb1 : (n + 1) * by_ < 16777216 := hb1
      split at h
      case h_2 => cases h
      rename_i hb2
      have hb2 := blt_lt hb2
      have e0 : n + 1 = 0 + (n + 1) := by omega
      rw [e0] at h
      have hgo := grown_new hE (φ := φ) (ty := ty) (base := none) (len := 0) (cap := 0) (old := []) hu hxt hd hes hby hz hzl hlo hfd (by simp [Builtin.firstCells]) (by omega) (by omega) (by rw [← e0]; exact hb1) (by simp) hal (by simp) has hh h ats
      simp only [c_nilSlice]
      exact hgo
  · rename_i b o len u c x'
    split at h
    case h_2 => cases h
    rename_i cs es' u' ho
    split at h
    case h_2 => cases h
    rename_i old hold
    split at h
    case h_2 => cases h
    rename_i hb1
    have hb1 := blt_lt hb1
    have hb1 : (len + n) * by_ < 16777216 := hb1
    split at h
    case h_2 => cases h
    rename_i hb2
    have hb2 := blt_lt hb2
    have hb2 : len + n < 16777216 := hb2
    split at h
    case h_2 => cases h
    rename_i hone
    obtain ⟨_, _, _, _, _, hbk⟩ := slice_form hs
    obtain ⟨hlN, ⟨cc, tt, lo, hi, o1, o2, o3, o4, o5⟩, hsc⟩ := hh.obj b _ ho hbk
    have hbN : b < 16777216 := by omega
    split at h
    · -- a capacity that is not known
      split at h
      case h_2 => cases h
      obtain ⟨o6, o7⟩ := o5 rfl
      split at h
      case h_2 => cases h
      rename_i heq
      have heq := Nat.eq_of_beq_eq_true heq
      subst heq
      split at h
      case h_2 => cases h
      rename_i hoc
      have hoc : o = c * es := Nat.eq_of_beq_eq_true hoc
      obtain ⟨hs1, hs2, hs3⟩ := (sc_sliceT _ _ _ _ _ _ _).1 hs
      obtain ⟨q, hq⟩ : ∃ q, q = if φ.c b = c then x' else o := ⟨_, rfl⟩
      have hql : 0 < len → q = o := fun hp => by rw [hq, if_neg (by omega)]
      have hqn : φ.c b ≠ c → q = o := fun hne => by rw [hq, if_neg hne]
      have hqe : φ.c b = c → q = x' := fun he => by rw [hq, if_pos he]
      obtain ⟨p1, p2, p3, p4⟩ := old_ok (P := P) (cap := φ.c b - c) hh ho hbk hold hql
      obtain ⟨p1d, _, _, _⟩ := old_ok (P := P) (cap := φ.c b - c) hh.drew ho hbk hold hql
      have hconc : conc φ (.slice b o len true c x') = .slice (some ⟨φ.b b, φ.s b + q, none⟩) len (φ.c b - c) := by rw [c_sliceT, ← hq]
      have hadd' : (⟨φ.b b, φ.s b + q, none⟩ : Addr).add (len * es) = ⟨φ.b b, φ.s b + q + len * es, none⟩ := add_none _ _ _
      have hmul : ∀ k, (c + k) * es = o + k * es := fun k => by rw [Nat.add_mul, hoc]
      split at h
      · -- the front covers it
        rename_i hcov
        have hcov := ble_le hcov
        rw [llen_eq] at hcov
        have hcov : o + len * es + n * es ≤ cs.length := hcov
        have hcn : c + (len + n) ≤ φ.c b := by
          have h1 : (c + (len + n)) * es ≤ φ.c b * es := by rw [hmul, Nat.add_mul]; omega
          exact Nat.le_of_mul_le_mul_right h1 hes1
        obtain rfl := Option.some.inj h
        by_cases hz0 : φ.c b = c
        · have hn0 : n = 0 := by omega
          have hl0 : len = 0 := by omega
          subst hn0 hl0
          have hadd0 : add = [] := List.eq_nil_of_length_eq_zero (by rw [hal]; simp)
          subst hadd0
          obtain ⟨w', r1, r2, r3⟩ := lay_moves (P := P) hh ho hbk hbN (o := Nat.add o (Nat.mul 0 es)) (xs := []) (by
            have e1 : Nat.add o (Nat.mul 0 es) = o + 0 * es := rfl
            rw [e1]; simp; omega) rfl (by simp)
          have hsv : scv φ N (.slice b o (Nat.add 0 0) true c x') := (sc_sliceT _ _ _ _ _ _ _).2 ⟨hs1, hs2, hs3⟩
          have hrn : (Builtin.append_ (t :: xt :: ats).toArray ty #[conc φ (.slice b o 0 true c x'), conc φ x]).run P w = .ok (conc φ (.slice b o (Nat.add 0 0) true c x')) w' := ?_
          exact ⟨φ, w', hrn, r2, r3, hsv⟩
          rw [hconc]
          have hw' : w' = w := by simpa [storeCells] using r1.symm
          have := append_in hE (ty := ty) (base := some ⟨φ.b b, φ.s b + q, none⟩) (len := 0) (cap := φ.c b - c) (w' := w) hu hxt hd hes hlo hf (by omega) (by simp [storeCells]) ats
          rw [this, hw']
        · have hqo := hqn hz0
          obtain ⟨w', r1, r2, r3⟩ := lay_moves (P := P) hh ho hbk hbN (o := Nat.add o (Nat.mul len es)) (xs := add) (by
            have e1 : Nat.add o (Nat.mul len es) = o + len * es := rfl
            rw [e1, hal]; omega) hone has
          refine ⟨φ, w', ?_, r2, r3, (sc_sliceT _ _ _ _ _ _ _).2 ⟨hs1, by show len + n + c ≤ _; omega, hs3⟩⟩
          rw [hconc]
          have := append_in hE (ty := ty) (base := some ⟨φ.b b, φ.s b + q, none⟩) (len := len) (cap := φ.c b - c) (w' := w') hu hxt hd hes hlo hf (by omega) (by
            show (storeCells ((⟨φ.b b, φ.s b + q, none⟩ : Addr).add (len * es)) (concs φ add).toArray.toList).run P w = _
            rw [hadd', hqo, show φ.s b + o + len * es = φ.s b + (o + len * es) from by omega]
            exact r1) ats
          rw [this, c_sliceT, ← hq]
          rfl
      · -- whether there is room is not known
        rename_i hcov
        by_cases hroom : len + n ≤ φ.c b - c
        · rw [hconc]
          exact append_room hE hu hxt hd hes hlo hf hh ho hbk (Eq.refl _) hoc hs2 hs3 hqn hqe hql hold p2 p3 hal has hone hroom h ats
        · obtain ⟨hk1, hk2⟩ := kill_moves hh hbk hbN
          obtain ⟨φ', w', e1, e2, e3, e4⟩ := grown_new hE (φ := φ) (ty := ty) (base := some ⟨φ.b b, φ.s b + q, none⟩) (len := len) (cap := φ.c b - c) (old := old) hu hxt hd hes hby hz hzl hlo hfd p1d hroom hb2 hb1 p2 hal p3 has hk1 h ats
          rw [hconc]
          exact ⟨φ', w', e1, e2, hk2.trans e3, e4⟩
    · -- a capacity that is known
      have hs1 := (sc_sliceF _ _ _ _ _ _ _).1 hs
      obtain ⟨p1, p2, p3, p4⟩ := old_ok (P := P) (q := o) (cap := c) hh ho hbk hold (fun _ => rfl)
      obtain ⟨p1d, _, _, _⟩ := old_ok (P := P) (q := o) (cap := c) hh.drew ho hbk hold (fun _ => rfl)
      rw [c_sliceF]
      split at h
      · rename_i hc
        have hc := ble_le hc
        have hc : len + n ≤ c := hc
        split at h
        case h_2 => cases h
        rename_i hcov
        have hcov := ble_le hcov
        rw [llen_eq] at hcov
        have hcov : o + len * es + n * es ≤ cs.length := hcov
        obtain rfl := Option.some.inj h
        obtain ⟨w', r1, r2, r3⟩ := lay_moves (P := P) hh ho hbk hbN (o := Nat.add o (Nat.mul len es)) (xs := add) (by
            have e1 : Nat.add o (Nat.mul len es) = o + len * es := rfl
            rw [e1, hal]; omega) hone has
        refine ⟨φ, w', ?_, r2, r3, (sc_sliceF _ _ _ _ _ _ _).2 hs1⟩
        have := append_in hE (ty := ty) (base := some ⟨φ.b b, φ.s b + o, none⟩) (len := len) (cap := c) (w' := w') hu hxt hd hes hlo hf hc (by
          show (storeCells ((⟨φ.b b, φ.s b + o, none⟩ : Addr).add (len * es)) (concs φ add).toArray.toList).run P w = _
          rw [add_none, show φ.s b + o + len * es = φ.s b + (o + len * es) from by omega]
          exact r1) ats
        rw [this, c_sliceF]
        rfl
      · rename_i hc
        have hc' : ¬ len + n ≤ c := fun hle => by
          have := Nat.ble_eq_true_of_le hle
          have hc : Nat.ble (len + n) c = false := hc
          rw [hc] at this
          cases this
        exact grown_new hE (φ := φ) (ty := ty) (base := some ⟨φ.b b, φ.s b + o, none⟩) (len := len) (cap := c) (old := old) hu hxt hd hes hby hz hzl hlo hfd p1d hc' hb2 hb1 p2 hal p3 has hh h ats
  · cases h
end
end Go.Ev

set_option linter.unusedVariables false
set_option linter.unusedSimpArgs false
namespace Go.Ev
open Go.RowKit
theorem bindO_some {x : Option AV} {f : AV → Option Out} {v : Out} (h : bindO x f = some v) : ∃ a, x = some a ∧ f a = some v := by
  cases x with
  | none => cases h
  | some a => exact ⟨a, rfl, h⟩
section
variable {P : Program} {E : Env} (hE : EnvOk P E)
include hE
theorem copy_run {t ty e es n len cap : Nat} {x : Value} {base : Option Addr} {new : Array Value} (hu : E.und t = some (.slice e)) (he : E.size e = some es)
    {w w' : World} (hl : (Builtin.lenOf x).run P w = .ok n w) (hf : (Builtin.firstCells es (Nat.min n len) x).run P w = .ok new w)
    (hst : match base with | some a => (storeCells a new.toList).run P w = .ok () w' | none => w' = w) (ats : List Nat) :
    (Builtin.copy_ (t :: ats).toArray ty #[.slice base len cap, x]).run P w = .ok (.int .i64 (Nat.min n len : Nat)) w' := by
  have g0 : (t :: ats).toArray[0]? = some t := rfl
  have g2 : (#[Value.slice base len cap, x] : Array Value)[0]? = some (.slice base len cap) := rfl
  have g3 : (#[Value.slice base len cap, x] : Array Value)[1]? = some x := rfl
  simp only [Builtin.copy_, g0, g2, g3, Sem.run_bind, run_und hE hu, Result.andThen_ok, hl, run_size hE he, hf]
  cases base with
  | none =>
    simp only at hst
    subst hst
    rfl
  | some a =>
    simp only at hst
    simp only [Sem.run_bind, hst, Result.andThen_ok, Sem.run_pure, goInt]
omit hE in
/-- The first of the cells of a source. -/
theorem source_part {φ : Emb} {H : Tr AObj} {N n m es : Nat} {x : AV} {add : List AV} {w : World} (h : source m x es H = some add) (hl : longOf x = some n) (hm : m ≤ n) (hh : HRel φ H N w) (hs : scv φ N x) :
    (Builtin.firstCells es m (conc φ x)).run P w = .ok (concs φ add).toArray w ∧ add.length = m * es ∧ ∀ v ∈ add, scv φ N v := by
  unfold source at h
  split at h
  · rename_i l k
    obtain rfl := Option.some.inj hl
    split at h
    · rename_i he
      have he := Nat.eq_of_beq_eq_true he
      subst he
      obtain rfl := Option.some.inj h
      refine ⟨?_, by rw [scells_len, Nat.mul_one], scells_sc φ N m k⟩
      have hex : (⟨(sbytes l k).toArray⟩ : ByteArray).extract 0 m = ⟨(sbytes m k).toArray⟩ := by
        rw [str_extract l k 0 m (Nat.zero_le _) hm]
        simp
      simp only [c_str, Builtin.firstCells, hex, Sem.run_pure, conc_scells]
      simp
    · cases h
  · obtain rfl := Option.some.inj h
    obtain rfl := Option.some.inj hl
    have : m = 0 := by omega
    subst this
    exact ⟨by simp [Builtin.firstCells], by simp, by simp⟩
  · rename_i b o len u c y
    obtain rfl := Option.some.inj hl
    split at h
    · rename_i cs es' u' ho
      obtain ⟨q, c', hf, hq, _, hbk⟩ := slice_form hs
      obtain ⟨hlN, hat, hsc⟩ := hh.obj b _ ho hbk
      obtain ⟨g1, g2⟩ := cut_eq h
      have g1 : o + m * es ≤ cs.length := g1
      have g2 : add = (cs.drop o).take (m * es) := g2
      refine ⟨?_, by rw [g2]; simp; omega, fun v hv => ?_⟩
      · rw [hf]
        have hload := load_slice (P := P) hat h (q := q) (fun hp => hq (by
          rcases Nat.eq_zero_or_pos m with h0 | h0
          · subst h0
            have hp' : 0 < 0 * es := hp
            simp at hp'
          · omega))
        exact hload
      · rw [g2] at hv
        exact hsc v (List.mem_of_mem_drop (List.mem_of_mem_take hv))
    · cases h
  · cases h
theorem evCopy_ok {φ : Emb} {H : Tr AObj} {N t ty : Nat} {d x : AV} {out : Out} {w : World} (h : evCopy E t d x H N = some out) (hh : HRel φ H N w) (hN : N ≤ 16777216) (hd : scv φ N d) (hx : scv φ N x) (ats : List Nat) :
    EffV P φ H N w out (Builtin.copy_ (t :: ats).toArray ty #[conc φ d, conc φ x]) := by
  unfold evCopy at h
  split at h
  case h_2 => cases h
  rename_i e hu
  split at h
  case h_2 => cases h
  rename_i es hes
  split at h
  case h_2 => cases h
  rename_i n hn
  have hlo := longOf_ok (P := P) (φ := φ) hn w
  split at h
  · obtain rfl := Option.some.inj h
    refine ⟨φ, w, ?_, hh, Moves.refl _ _ _ _, sc_int _ _ _ _⟩
    have hmin : Nat.min n 0 = 0 := Nat.min_zero n
    rw [c_nilSlice]
    have hf0 : ∃ new, (Builtin.firstCells es (Nat.min n 0) (conc φ x)).run P w = .ok new w := by
      rw [hmin]
      unfold longOf at hn
      split at hn
      · simp [Builtin.firstCells]
      · simp [Builtin.firstCells]
      · rename_i b o l u c y
        obtain ⟨A, c', e⟩ := c_slice φ b o l u c y
        simp [e, Builtin.firstCells, loadCells, loadCellsFrom]
      · cases hn
    obtain ⟨new, hf0⟩ := hf0
    have := copy_run hE (ty := ty) (base := none) (len := 0) (cap := 0) (w' := w) hu hes hlo hf0 rfl ats
    rw [this, hmin]
    simp
  · rename_i b o len u c y
    rw [min_rec] at h
    split at h
    case h_2 => cases h
    rename_i add hadd
    split at h
    case h_2 => cases h
    rename_i cs es' u' ho
    split at h
    case h_2 => cases h
    rename_i hcov
    have hcov := ble_le hcov
    rw [llen_eq] at hcov
    have hcov : o + min n len * es ≤ cs.length := hcov
    split at h
    case h_2 => cases h
    rename_i hone
    obtain rfl := Option.some.inj h
    obtain ⟨_, _, _, _, _, hbk⟩ := slice_form hd
    obtain ⟨hlN, _, _⟩ := hh.obj b _ ho hbk
    obtain ⟨s1, s2, s3⟩ := source_part (P := P) hadd hn (Nat.min_le_left _ _) hh hx
    obtain ⟨q, c', hf, hq, _⟩ := slice_form hd
    obtain ⟨w', r1, r2, r3⟩ := lay_moves (P := P) hh ho hbk (by omega) (o := o) (xs := add) (by rw [s2]; exact hcov) hone s3
    refine ⟨φ, w', ?_, r2, r3, sc_int _ _ _ _⟩
    rw [hf]
    have hst : (storeCells ⟨φ.b b, φ.s b + q, none⟩ (concs φ add)).run P w = .ok () w' := by
      by_cases h0 : 0 < len
      · rw [hq h0]; exact r1
      · have hadd0 : add = [] := List.eq_nil_of_length_eq_zero (by
          rw [s2]
          have : len = 0 := by omega
          rw [this, Nat.min_zero, Nat.zero_mul])
        subst hadd0
        simpa [storeCells] using r1
    have := copy_run hE (ty := ty) (base := some ⟨φ.b b, φ.s b + q, none⟩) (len := len) (cap := c') (w' := w') hu hes hlo s1 (by simpa using hst) ats
    rw [this]
    simp
  · cases h
theorem evClear_ok {φ : Emb} {H : Tr AObj} {N t ty : Nat} {x : AV} {out : Out} {w : World} (h : evClear E t x H N = some out) (hh : HRel φ H N w) (hN : N ≤ 16777216) (hx : scv φ N x) (ats : List Nat) :
    EffV P φ H N w out (Builtin.clear_ (t :: ats).toArray ty #[conc φ x]) := by
  have sct : ∀ φ, scv φ N (.tuple []) := fun φ => (sc_tuple _ _ _).2 (by rw [scs]; trivial)
  unfold evClear at h
  split at h
  · rename_i e hu
    split at h
    · obtain rfl := Option.some.inj h
      refine ⟨φ, w, ?_, hh, Moves.refl _ _ _ _, sct φ⟩
      simp [Builtin.clear_, run_und hE hu]
    · rename_i b o len u c y
      split at h
      case h_2 => cases h
      rename_i z hz
      split at h
      case h_2 => cases h
      rename_i es hes
      split at h
      case h_2 => cases h
      rename_i cs es' u' ho
      split at h
      case h_2 => cases h
      rename_i hcov
      split at h
      case h_2 => cases h
      rename_i hone
      split at h
      case h_2 => cases h
      rename_i hzl
      obtain rfl := Option.some.inj h
      have hcov := ble_le hcov
      rw [llen_eq] at hcov
      have hcov : o + len * es ≤ cs.length := hcov
      have hzl := Nat.eq_of_beq_eq_true hzl
      rw [llen_eq] at hzl
      obtain ⟨_, _, _, _, _, hbk⟩ := slice_form hx
      obtain ⟨hlN, _, _⟩ := hh.obj b _ ho hbk
      have hsz : ∀ v ∈ cellsOf z, scv φ N v := fun v hv => scv_zero (cellsOf_sc ((hE.zero e z hz).2 φ) v hv) φ
      have hsr : ∀ v ∈ lrep len (cellsOf z), scv φ N v := fun v hv => by
        rw [lrep_eq] at hv
        obtain ⟨l, hl, hv⟩ := List.mem_flatten.1 hv
        rw [List.eq_of_mem_replicate hl] at hv
        exact hsz v hv
      have hlr : (lrep len (cellsOf z)).length = len * es := by rw [lrep_eq]; simp [hzl]
      obtain ⟨q, c', hf, hq, _⟩ := slice_form hx
      obtain ⟨w', r1, r2, r3⟩ := lay_moves (P := P) hh ho hbk (by omega) (o := o) (xs := lrep len (cellsOf z)) (by rw [hlr]; exact hcov) hone hsr
      refine ⟨φ, w', ?_, r2, r3, sct φ⟩
      rw [hf]
      cases len with
      | zero =>
        have r1 : (storeCells ⟨φ.b b, φ.s b + o, none⟩ (concs φ [])).run P w = .ok () w' := r1
        have : w' = w := by
          simp [storeCells] at r1
          exact r1.symm
        subst this
        simp [Builtin.clear_, run_und hE hu]
      | succ len =>
        have hq := hq (Nat.succ_pos _)
        subst hq
        have hc : Builtin.zeroCells (concs φ (cellsOf z)).toArray (len + 1) = (concs φ (lrep (len + 1) (cellsOf z))).toArray := by
          rw [← rep_cells, Builtin.zeroCells, List.size_toArray, len_concs]
        simp [Builtin.clear_, run_und hE hu, run_zero hE hz φ, cellsOf_conc, hc, r1]
    · cases h
  · rename_i k e hu
    split at h
    · obtain rfl := Option.some.inj h
      refine ⟨φ, w, ?_, hh, Moves.refl _ _ _ _, sct φ⟩
      simp [Builtin.clear_, run_und hE hu]
    · rename_i l
      split at h
      · rename_i es c ho
        obtain rfl := Option.some.inj h
        have hlk := ((sc_map _ _ _).1 hx).2
        obtain ⟨hlN, hat, hsc⟩ := hh.obj l _ ho hlk
        have hg := MapKept.run_getObj_map (P := P) (map_block hat)
        obtain ⟨w', r1, r2, r3⟩ := map_moves (P := P) (c' := c) (es' := []) hh ho hlk (by omega) (by simp)
        refine ⟨φ, w', ?_, r2, r3, sct φ⟩
        simp only [List.map_nil] at r1
        simp [Builtin.clear_, run_und hE hu, hg, r1]
      · cases h
    · cases h
  · cases h
end
end Go.Ev

set_option linter.unusedVariables false
set_option linter.unusedSimpArgs false
namespace Go.Ev
open Go.RowKit
section
variable {P : Program} {E : Env} (hE : EnvOk P E) {φ : Emb} {N n : Nat} {ts : Tr AV} {a : Act} (ht : TRel φ N n ts a)
include hE ht
/-- What a call of a function value asks. -/
def isGo (op : Op) : Bool :=
  match op with
  | .call c => match c.callee with
    | .value _ => true
    | _ => false
  | _ => false
/-- What an operation that does something comes to, calls of functions apart. -/
theorem evE_ok {cf : CallF} {H : Tr AObj} {o : Oper} {out : Out} {w : World} (h : evE E cf ts H N o.op = some out) (hg : isGo o.op = false) (hN : N ≤ 16777216) (hh : HRel φ H N w) :
    Eff P φ H N w out (execOp a.eval o) := by
  obtain ⟨dst, op, type, pos, after, guard⟩ := o
  simp only at h hg
  cases op <;> simp only [evE] at h <;> try (cases h; done)
  case alloc t =>
    exact (evAlloc_ok hE h hh).eff
  case box t x =>
    obtain ⟨vx, hx, h⟩ := bindO_some h
    obtain ⟨e, s⟩ := oper_ok ht hx
    have := (evBox_ok (P := P) (t := t) h hh s).eff
    simpa only [execOp, e] using this
  case buildSlice t len ps =>
    obtain ⟨qs, hq, h⟩ := orec_some h
    obtain ⟨e, s⟩ := pairs_ok ht hq
    have he : (ps.map fun (i, x) => (i, a.eval x)) = (qs.map fun p => (p.1, conc φ p.2)).toArray := by
      apply Array.ext'
      simpa using e
    have := (evBuildSlice_ok hE h hh s).eff
    simpa only [execOp, he] using this
  case store t x y =>
    obtain ⟨vx, hx, h⟩ := bindO_some h
    obtain ⟨vy, hy, h⟩ := bindO_some h
    obtain ⟨e1, s1⟩ := oper_ok ht hx
    obtain ⟨e2, s2⟩ := oper_ok ht hy
    have := (evStore_ok hE h hh hN s1 s2).eff
    simpa only [execOp, e1, e2] using this
  case convert sr ds x =>
    obtain ⟨vx, hx, h⟩ := bindO_some h
    obtain ⟨e, s⟩ := oper_ok ht hx
    split at h
    · rename_i hd
      have := (evConvertB_ok hE h hd hh).eff
      simpa only [execOp, e] using this
    · cases h
  case makeMap t r =>
    split at h
    · obtain ⟨φ', h1, h2, h3, h4, h5⟩ := new_map (P := P) h hh
      refine ⟨φ', _, .inl ?_, h3, h4, h5⟩
      simp [execOp, Instr.makeMap, h1, h2]
    · rename_i o
      obtain ⟨v, hv, h⟩ := bindO_some h
      obtain ⟨e, s⟩ := oper_ok ht hv
      split at h
      · rename_i k el hu
        split at h
        · rename_i kd z
          obtain ⟨φ', h1, h2, h3, h4, h5⟩ := new_map (P := P) h hh
          refine ⟨φ', _, .inl ?_, h3, h4, h5⟩
          rw [c_int] at e
          simp [execOp, Instr.makeMap, h1, h2, e, asInt, asIntOf, run_und hE hu]
        · cases h
      · cases h
  case makeSlice t x y =>
    obtain ⟨vx, hx, h⟩ := bindO_some h
    obtain ⟨vy, hy, h⟩ := bindO_some h
    obtain ⟨e1, s1⟩ := oper_ok ht hx
    obtain ⟨e2, s2⟩ := oper_ok ht hy
    have := (evMakeSlice_ok hE h hh).eff
    simpa only [execOp, e1, e2] using this
  case mapUpdate t m k v =>
    obtain ⟨vm, hm, h⟩ := bindO_some h
    obtain ⟨vk, hk, h⟩ := bindO_some h
    obtain ⟨vv, hv, h⟩ := bindO_some h
    obtain ⟨e1, s1⟩ := oper_ok ht hm
    obtain ⟨e2, s2⟩ := oper_ok ht hk
    obtain ⟨e3, s3⟩ := oper_ok ht hv
    have := (evMapUpdate_ok hE h hh hN s1 s2 s3).eff
    simpa only [execOp, e1, e2, e3] using this
  case insert t m k v =>
    obtain ⟨vm, hm, h⟩ := bindO_some h
    obtain ⟨vk, hk, h⟩ := bindO_some h
    obtain ⟨vv, hv, h⟩ := bindO_some h
    obtain ⟨e1, s1⟩ := oper_ok ht hm
    obtain ⟨e2, s2⟩ := oper_ok ht hk
    obtain ⟨e3, s3⟩ := oper_ok ht hv
    have := (evMapUpdate_ok hE h hh hN s1 s2 s3).eff
    simpa only [execOp, e1, e2, e3] using this
  case range t x =>
    obtain ⟨vx, hx, h⟩ := bindO_some h
    obtain ⟨e, s⟩ := oper_ok ht hx
    have := (evRange_ok hE h hh s).eff
    simpa only [execOp, e] using this
  case next x b =>
    obtain ⟨vx, hx, h⟩ := bindO_some h
    obtain ⟨e, s⟩ := oper_ok ht hx
    have := (evNext_ok (P := P) (ty := type) h hh hN s).eff
    simpa only [execOp, e] using this
  case call c =>
    obtain ⟨callee, args, argTypes⟩ := c
    simp only at h
    cases callee <;> simp only at h <;> try (cases h; done)
    · cases hg
    · rename_i b
      obtain ⟨vs, hvs, h⟩ := orec_some h
      obtain ⟨e, s⟩ := opers_ok ht hvs
      have he : args.map a.eval = (concs φ vs).toArray := by apply Array.ext'; simpa using e
      unfold evEB at h
      cases b <;> simp only at h <;> try (cases h; done)
      · split at h
        · rename_i t xt ats hat
          split at h
          · rename_i x y
            simp only [scs] at s
            obtain ⟨φ', w', r1, r2, r3, r4⟩ := evAppend_ok (ty := type) hE h hh hN s.1 s.2.1 ats
            refine ⟨φ', w', .inl ?_, r2, r3, r4⟩
            have hat' : argTypes = (t :: xt :: ats).toArray := by apply Array.ext'; simpa using hat
            simp only [cs_cons, cs_nil] at he
            simp only [execOp, resolve, he, Sem.run_bind, Sem.run_pure, Result.andThen_ok, invoke, builtin, hat', r1]
          · cases h
        · cases h
      · split at h
        · rename_i t ats hat
          split at h
          · rename_i x
            simp only [scs] at s
            obtain ⟨φ', w', r1, r2, r3, r4⟩ := evClear_ok (ty := type) hE h hh hN s.1 ats
            refine ⟨φ', w', .inl ?_, r2, r3, r4⟩
            have hat' : argTypes = (t :: ats).toArray := by apply Array.ext'; simpa using hat
            simp only [cs_cons, cs_nil] at he
            simp only [execOp, resolve, he, Sem.run_bind, Sem.run_pure, Result.andThen_ok, invoke, builtin, hat', r1]
          · cases h
        · cases h
      · split at h
        · rename_i t ats hat
          split at h
          · rename_i x y
            simp only [scs] at s
            obtain ⟨φ', w', r1, r2, r3, r4⟩ := evCopy_ok (ty := type) hE h hh hN s.1 s.2.1 ats
            refine ⟨φ', w', .inl ?_, r2, r3, r4⟩
            have hat' : argTypes = (t :: ats).toArray := by apply Array.ext'; simpa using hat
            simp only [cs_cons, cs_nil] at he
            simp only [execOp, resolve, he, Sem.run_bind, Sem.run_pure, Result.andThen_ok, invoke, builtin, hat', r1]
          · cases h
        · cases h
      · split at h
        · rename_i t ats hat
          split at h
          · rename_i x y
            simp only [scs] at s
            obtain ⟨φ', w', r1, r2, r3, r4⟩ := evDelete_ok (ty := type) (ats := ats) hE h hh hN s.1
            refine ⟨φ', w', .inl ?_, r2, r3, r4⟩
            have hat' : argTypes = (t :: ats).toArray := by apply Array.ext'; simpa using hat
            simp only [cs_cons, cs_nil] at he
            simp only [execOp, resolve, he, Sem.run_bind, Sem.run_pure, Result.andThen_ok, invoke, builtin, hat', r1]
          · cases h
        · cases h
end
end Go.Ev

set_option linter.unusedVariables false
set_option linter.unusedSimpArgs false
namespace Go.Ev
open Go.RowKit
/-- The slots that an operation looks at stand the same. -/
def Like (ts ts' : Tr AV) (op : Op) : Prop := ∀ d, Operand.tmp d ∈ op.operands → ts.get d = ts'.get d
theorem oper_like {ts ts' : Tr AV} {x : Operand} (h : ∀ d, x = .tmp d → ts.get d = ts'.get d) : oper ts x = oper ts' x := by
  cases x with
  | tmp d => simp only [oper, h d rfl]
  | _ => rfl
theorem opers_like {ts ts' : Tr AV} : ∀ {l : List Operand}, (∀ d, Operand.tmp d ∈ l → ts.get d = ts'.get d) → opers ts l = opers ts' l
  | [], h => rfl
  | x :: l, h => by
    have h1 : oper ts x = oper ts' x := oper_like fun d e => h d (by simp [e])
    have h2 : opers ts l = opers ts' l := opers_like fun d e => h d (List.mem_cons_of_mem _ e)
    show (match oper ts x with | some v => (match opers ts l with | some r => some (v :: r) | none => none) | none => none) = (match oper ts' x with | some v => (match opers ts' l with | some r => some (v :: r) | none => none) | none => none)
    rw [h1, h2]
theorem pairs_like {ts ts' : Tr AV} : ∀ {l : List (Nat × Operand)}, (∀ d, Operand.tmp d ∈ l.map (·.2) → ts.get d = ts'.get d) → pairs ts l = pairs ts' l
  | [], h => rfl
  | x :: l, h => by
    have h1 : oper ts x.2 = oper ts' x.2 := oper_like fun d e => h d (by simp [e])
    have h2 : pairs ts l = pairs ts' l := pairs_like fun d e => h d (List.mem_cons_of_mem _ e)
    show (match oper ts x.2 with | some v => (match pairs ts l with | some r => some ((x.1, v) :: r) | none => none) | none => none) = (match oper ts' x.2 with | some v => (match pairs ts' l with | some r => some ((x.1, v) :: r) | none => none) | none => none)
    rw [h1, h2]
theorem optV_like {ts ts' : Tr AV} {x : Option Operand} (f : Option AV → Option AV) (h : ∀ d, x = some (.tmp d) → ts.get d = ts'.get d) : optV ts x f = optV ts' x f := by
  cases x with
  | none => rfl
  | some o => simp only [optV, oper_like (x := o) fun d e => h d (by rw [e])]
section
variable {E : Env} {ts ts' : Tr AV}
theorem evQ_like {H : Tr AObj} {op : Op} (h : Like ts ts' op) : evQ E ts H op = evQ E ts' H op := by
  unfold Like at h
  cases op <;> simp only [evQ] <;> simp only [Op.operands] at h
  case move x => exact oper_like fun d e => h d (by simp [e])
  case assign x => exact oper_like fun d e => h d (by simp [e])
  case pick c x y => rw [oper_like (x := c) fun d e => h d (by simp [e]), oper_like (x := x) fun d e => h d (by simp [e]), oper_like (x := y) fun d e => h d (by simp [e])]
  case build t ps => rw [pairs_like (l := ps.toList) fun d e => h d (by simpa using e)]
  case load t x => rw [oper_like (x := x) fun d e => h d (by simp [e])]
  case nilCheck x => rw [oper_like (x := x) fun d e => h d (by simp [e])]
  case binOp op t x y yt => rw [oper_like (x := x) fun d e => h d (by simp [e]), oper_like (x := y) fun d e => h d (by simp [e])]
  case unOp op t x => rw [oper_like (x := x) fun d e => h d (by simp [e])]
  case convert s t x => rw [oper_like (x := x) fun d e => h d (by simp [e])]
  case makeFunc f xs ys =>
    rw [opers_like (l := xs.toList) fun d e => h d (by simp [Array.mem_toList_iff.1 e]), opers_like (l := ys.toList) fun d e => h d (by simp [Array.mem_toList_iff.1 e])]
  case slice t x lo hi mx =>
    rw [oper_like (x := x) fun d e => h d (by simp [e])]
    have e1 := fun f => optV_like (ts := ts) (ts' := ts') (x := lo) f fun d e => h d (by simp [e])
    have e2 := fun f => optV_like (ts := ts) (ts' := ts') (x := hi) f fun d e => h d (by simp [e])
    have e3 := fun f => optV_like (ts := ts) (ts' := ts') (x := mx) f fun d e => h d (by simp [e])
    simp only [e1, e2, e3]
  case fieldAddr t x i => rw [oper_like (x := x) fun d e => h d (by simp [e])]
  case field t x i => rw [oper_like (x := x) fun d e => h d (by simp [e])]
  case indexAddr t x y => rw [oper_like (x := x) fun d e => h d (by simp [e]), oper_like (x := y) fun d e => h d (by simp [e])]
  case index t x y => rw [oper_like (x := x) fun d e => h d (by simp [e]), oper_like (x := y) fun d e => h d (by simp [e])]
  case lookup t x y b => rw [oper_like (x := x) fun d e => h d (by simp [e]), oper_like (x := y) fun d e => h d (by simp [e])]
  case extract x i => rw [oper_like (x := x) fun d e => h d (by simp [e])]
  case entry x => rw [oper_like (x := x) fun d e => h d (by simp [e])]
  case call c =>
    obtain ⟨callee, args, argTypes⟩ := c
    cases callee <;> simp only
    simp only [Call.operands] at h
    rw [opers_like (l := args.toList) fun d e => h d (by simpa using e)]
theorem evE_like {cf : CallF} {H : Tr AObj} {N : Nat} {op : Op} (h : Like ts ts' op) : evE E cf ts H N op = evE E cf ts' H N op := by
  unfold Like at h
  cases op <;> simp only [evE] <;> simp only [Op.operands] at h
  case box t x => rw [oper_like (x := x) fun d e => h d (by simp [e])]
  case buildSlice t n ps => rw [pairs_like (l := ps.toList) fun d e => h d (by simpa using e)]
  case store t x y => rw [oper_like (x := x) fun d e => h d (by simp [e]), oper_like (x := y) fun d e => h d (by simp [e])]
  case convert s t x => rw [oper_like (x := x) fun d e => h d (by simp [e])]
  case makeMap t r =>
    cases r with
    | none => rfl
    | some o => simp only; rw [oper_like (x := o) fun d e => h d (by simp [e])]
  case makeSlice t x y => rw [oper_like (x := x) fun d e => h d (by simp [e]), oper_like (x := y) fun d e => h d (by simp [e])]
  case mapUpdate t x y z => rw [oper_like (x := x) fun d e => h d (by simp [e]), oper_like (x := y) fun d e => h d (by simp [e]), oper_like (x := z) fun d e => h d (by simp [e])]
  case insert t x y z => rw [oper_like (x := x) fun d e => h d (by simp [e]), oper_like (x := y) fun d e => h d (by simp [e]), oper_like (x := z) fun d e => h d (by simp [e])]
  case range t x => rw [oper_like (x := x) fun d e => h d (by simp [e])]
  case next x b => rw [oper_like (x := x) fun d e => h d (by simp [e])]
  case call c =>
    obtain ⟨callee, args, argTypes⟩ := c
    cases callee <;> simp only
    · simp only [Call.operands] at h
      rename_i f
      rw [opers_like (l := args.toList) fun d e => h d (by simp [Array.mem_toList_iff.1 e]), oper_like (x := f) fun d e => h d (by simp [e])]
    · simp only [Call.operands] at h
      rw [opers_like (l := args.toList) fun d e => h d (by simpa using e)]
theorem evNew_like {op : Op} (h : Like ts ts' op) : evNew E ts op = evNew E ts' op := by
  unfold Like at h
  cases op <;> simp only [evNew] <;> simp only [Op.operands] at h
  case buildSlice t n ps => rw [pairs_like (l := ps.toList) fun d e => h d (by simpa using e)]
end
end Go.Ev

set_option linter.unusedVariables false
set_option linter.unusedSimpArgs false
namespace Go.Ev
open Go.RowKit
/-- How a call has come back. -/
def RetOk (φ : Emb) (H : Tr AObj) (N : Nat) (w : World) (out : Out) : Ending → World → Prop := fun e w' =>
  ∃ φ', e = .returned (conc φ' out.v) ∧ HRel φ' out.H out.N w' ∧ Moves φ H N w φ' out.H out.N w' ∧ scv φ' out.N out.v
/-- What is foretold of calls is so. -/
def CallOk (P : Program) (cf : CallF) : Prop :=
  ∀ f vs H N out, cf f vs H N = some out → (∃ fn, P.funcs[f]? = some fn ∧ (fn.name == "runtime.NumGoroutine") = false ∧ fn.body.isSome = true) ∧
    ∀ φ w, HRel φ H N w → scs φ N vs → N ≤ 16777216 → Calls P f (concs φ vs).toArray w (RetOk φ H N w out)
theorem conc_bool {φ : Emb} {v : AV} {b : Bool} (h : conc φ v = .bool b) : v = .bool b := by
  cases v with
  | bool c => rw [c_bool] at h; cases h; rfl
  | slice l o n u c x => cases u <;> simp at h
  | nil => simp at h
  | _ => simp at h
section
variable {P : Program} {E : Env} {φ : Emb} {N n : Nat} {ts : Tr AV} {a : Act} {K : Act → World → Prop} {Q : Exit → Act → World → Prop}
theorem quiet_wp (hE : EnvOk P E) (ht : TRel φ N n ts a) {H : Tr AObj} {o : Oper} {v : AV} {w : World} (h : evQ E ts H o.op = some v) (hd : cls E o.op < 2) (hh : HRel φ H N w)
    (hK : scv φ N v → K (a.put o.dst (conc φ v)) w) : o.wp P a w K Q := by
  obtain ⟨r, s⟩ := evQ_ok hE ht h hd fun _ => hh
  unfold Oper.wp
  rw [r]
  exact hK s
theorem effect_wp (hE : EnvOk P E) {cf : CallF} (hc : CallOk P cf) (ht : TRel φ N n ts a) {H : Tr AObj} {o : Oper} {out : Out} {w : World} (h : evE E cf ts H N o.op = some out) (hN : N ≤ 16777216) (hh : HRel φ H N w)
    (hK : ∀ φ' w', HRel φ' out.H out.N w' → Moves φ H N w φ' out.H out.N w' → scv φ' out.N out.v → K (a.put o.dst (conc φ' out.v)) w') : o.wp P a w K Q := by
  cases hg : isGo o.op with
  | false =>
    obtain ⟨φ', w', r, h1, h2, h3⟩ := evE_ok hE ht h hg hN hh
    unfold Oper.wp
    rcases r with r | ⟨r, e⟩
    · rw [r]
      exact hK φ' w' h1 h2 h3
    · rw [r]
      have := hK φ' w' h1 h2 h3
      rw [e, conc_undef] at this
      exact this
  | true =>
    obtain ⟨dst, op, type, pos, after, guard⟩ := o
    simp only at h hg
    unfold isGo at hg
    split at hg
    case h_2 => cases hg
    rename_i c
    obtain ⟨callee, args, argTypes⟩ := c
    simp only at hg
    split at hg
    case h_2 => cases hg
    rename_i f
    simp only [evE] at h
    obtain ⟨vf, hf, h⟩ := bindO_some h
    obtain ⟨vs, hvs, h⟩ := orec_some h
    obtain ⟨e1, s1⟩ := oper_ok ht hf
    obtain ⟨e2, s2⟩ := opers_ok ht hvs
    have h : evCallV cf vf vs H N = some out := h
    unfold evCallV at h
    cases vf <;> simp only at h <;> try (cases h; done)
    rename_i fi first cap h0 h1
    obtain ⟨⟨fn, g1, g2, g3⟩, hcall⟩ := hc _ _ _ _ _ h
    rw [sc_fn] at s1
    rw [lapp_eq, lapp_eq] at hcall h
    have hsc : scs φ N (first ++ (vs ++ cap)) := by
      rw [scs_iff] at s1 s2 ⊢
      intro v hv
      rcases List.mem_append.1 hv with hv | hv
      · exact s1.1 v hv
      · rcases List.mem_append.1 hv with hv | hv
        · exact s2 v hv
        · exact (scs_iff φ N _).1 s1.2 v hv
    have hcall := hcall φ w hh hsc hN
    have he : args.map a.eval = (concs φ vs).toArray := by apply Array.ext'; simpa using e2
    have harr : ((concs φ first).toArray ++ (concs φ vs).toArray) ++ (concs φ cap).toArray = (concs φ (first ++ (vs ++ cap))).toArray := by
      apply Array.ext'
      simp [concs_eq]
    unfold Oper.wp
    have hb : fn.body.isNone = false := by cases hb : fn.body <;> simp_all
    have hrun : (execOp a.eval ⟨dst, .call ⟨.value f, args, argTypes⟩, type, pos, after, guard⟩).run P w = .ok (.enter fi (concs φ (first ++ (vs ++ cap))).toArray) w := by
      rw [c_fn] at e1
      simp only [execOp, resolve, e1, he, Deferred.ofValue, Sem.run_bind, Sem.run_pure, Result.andThen_ok, invoke, callFunc, run_program, g1, g2, hb, harr]
      simp
    rw [hrun]
    show Calls P fi _ w _
    refine Calls.mono hcall fun e w' hr => ?_
    obtain ⟨φ', rfl, h1, h2, h3⟩ := hr
    exact hK φ' w' h1 h2 h3
/-- A guard says the same here and there. -/
theorem wanted_eq {ops : Array Oper} {o : Oper} (ht : TRel φ N n ts a) (hn : n ≤ 16777216) : Region.wanted o (yielded ops a.tmps) = wantedA ts (guardOf ops.toList o) := by
  unfold Region.wanted guardOf wantedA
  cases hg : o.guard with
  | none => rfl
  | some p =>
    obtain ⟨j, want⟩ := p
    simp only [lget_eq, yielded, Array.getElem?_toList]
    have hbig : ts.get 16777216 = none := ht.beyond _ hn
    cases hj : ops[j]? with
    | none => simp [hbig]
    | some p =>
      simp only [Option.bind_some]
      cases hd : p.dst with
      | none => simp [hbig]
      | some t =>
        simp only [Option.bind_some]
        by_cases hlt : t < n
        · obtain ⟨h1, h2⟩ := ht.val t hlt
          rw [h1]
          cases hv : ts.get t with
          | none => simp [tget, hv, conc_undef, undef]
          | some v =>
            simp only [tget, hv, Option.getD_some]
            cases hc : conc φ v
            case bool b =>
              obtain rfl := conc_bool hc
              cases b <;> cases want <;> rfl
            all_goals
              have hnb : ∀ b, v ≠ .bool b := fun b e => by subst e; rw [c_bool] at hc; cases hc
              cases v <;> simp_all
        · have h1 := ht.beyond t (Nat.le_of_not_lt hlt)
          have : a.tmps[t]? = none := Array.getElem?_eq_none (by rw [ht.size]; exact Nat.le_of_not_lt hlt)
          rw [this, h1]
          rfl
end
end Go.Ev

set_option linter.unusedVariables false
set_option linter.unusedSimpArgs false
namespace Go.Ev
open Go.RowKit
theorem SRel.put {φ φ' : Emb} {n : Nat} {st : St} {a : Act} {w w' : World} {d : Option Nat} {v : AV} {ts' : Tr AV} {H' : Tr AObj} {N' : Nat} (hs : SRel φ n st a w) (hn : n ≤ 16777216) (hp : tput n d v st.ts = some ts') (hm : Moves φ st.H st.N w φ' H' N' w') (hh : HRel φ' H' N' w') (hv : scv φ' N' v) :
    SRel φ' n ⟨ts', H', N'⟩ (a.put d (conc φ' v)) w' :=
  ⟨(hs.t.same hm.same hm.le).put hn hp hv, hh⟩
section
variable {P : Program} {E : Env} (hE : EnvOk P E) {cf : CallF} (hc : CallOk P cf) {n : Nat} (hn : n ≤ 16777216)
include hE hc hn
/-- Operations one after the other. -/
theorem steps_text {ops : Array Oper} {Q : Exit → Act → World → Prop} : ∀ (l : List Oper) (st st' : St) (a : Act) (w : World) (φ : Emb),
    evSteps E cf 0 n (fun _ => none) (l.map fun o => stepOf E ops.toList o [] none) st = some st' → SRel φ n st a w → st.N ≤ 16777216 →
    (∀ φ' a' w', SRel φ' n st' a' w' → Moves φ st.H st.N w φ' st'.H st'.N w' → st'.N ≤ 16777216 → Q .normal a' w') → wpList P ops Q l a w
  | [], st, st', a, w, φ, h, hs, hN, hQ => by
    obtain rfl := Option.some.inj h
    exact hQ φ a w hs (Moves.refl _ _ _ _) hN
  | o :: l, st, st', a, w, φ, h, hs, hN, hQ => by
    have h : (match evStep E cf 0 n (fun _ => none) (stepOf E ops.toList o [] none) st with
      | some st => evSteps E cf 0 n (fun _ => none) (l.map fun o => stepOf E ops.toList o [] none) st
      | none => none) = some st' := h
    cases h1 : evStep E cf 0 n (fun _ => none) (stepOf E ops.toList o [] none) st with
    | none => rw [h1] at h; cases h
    | some st1 =>
      rw [h1] at h
      simp only at h
      have hw := wanted_eq (o := o) (ops := ops) hs.t hn
      have next : ∀ φ1 a1 w1, SRel φ1 n st1 a1 w1 → Moves φ st.H st.N w φ1 st1.H st1.N w1 → st1.N ≤ 16777216 → wpList P ops Q l a1 w1 := fun φ1 a1 w1 s1 m1 hN1 =>
        steps_text l st1 st' a1 w1 φ1 h s1 hN1 fun φ2 a2 w2 s2 m2 hN2 => hQ φ2 a2 w2 s2 (m1.trans m2) hN2
      unfold evStep at h1
      simp only [stepOf] at h1
      split at h1
      · rename_i hwa
        split at h1
        · rename_i ts1 hp
          obtain rfl := Option.some.inj h1
          have hgo := next φ _ w (hs.put hn hp (Moves.refl _ _ _ _) hs.h (scv_undef _ _)) (Moves.refl _ _ _ _) hN
          rw [conc_undef] at hgo
          simp only [wpList, hw, hwa]
          exact hgo
        · cases h1
      · rename_i hwa
        simp only [wpList, hw, hwa, if_true]
        left
        have quiet : cls E o.op < 2 → ∀ v, evQ E st.ts st.H o.op = some v → (match tput n o.dst v st.ts with | some ts => some (⟨ts, st.H, st.N⟩ : St) | none => none) = some st1 → o.wp P a w (wpList P ops Q l) Q := fun hlt v hv h2 => by
          split at h2
          · rename_i ts1 hp
            obtain rfl := Option.some.inj h2
            exact quiet_wp hE hs.t hv hlt hs.h fun sv => next φ _ w (hs.put hn hp (Moves.refl _ _ _ _) hs.h sv) (Moves.refl _ _ _ _) hN
          · cases h2
        split at h1
        · rename_i hcl
          split at h1
          · rename_i v hv
            exact quiet (by omega) v hv h1
          · cases h1
        · rename_i hcl
          split at h1
          · rename_i v hv
            exact quiet (by omega) v hv h1
          · cases h1
        · split at h1
          case h_2 => cases h1
          rename_i out hout
          split at h1
          case h_2 => cases h1
          rename_i hle
          have hle := ble_le hle
          split at h1
          case h_2 => cases h1
          rename_i ts1 hp
          split at h1
          case h_2 => cases h1
          obtain rfl := Option.some.inj h1
          exact effect_wp hE hc hs.t hout hN hs.h fun φ' w' h1 h2 h3 => next φ' _ w' (hs.put hn hp h2 h1 h3) h2 hle
theorem region_text {ops : Array Oper} {id : Nat} {Q : Exit → Act → World → Prop} {st st' : St} {a : Act} {w : World} {φ : Emb} (h : evRegion E cf n ops.toList false st = some st') (hs : SRel φ n st a w) (hN : st.N ≤ 16777216)
    (hQ : ∀ φ' a' w', SRel φ' n st' a' w' → Moves φ st.H st.N w φ' st'.H st'.N w' → st'.N ≤ 16777216 → Q .normal a' w') : (Code.region id ops false).wp P Q a w := by
  apply wp_region_list
  refine steps_text hE hc hn ops.toList st st' a w φ ?_ hs hN hQ
  have : planText E ops.toList = ops.toList.map fun o => stepOf E ops.toList o [] none := by
    have : ∀ l : List Oper, (List.rec [] (fun o _ ih => stepOf E ops.toList o [] none :: ih) l : List Step) = l.map fun o => stepOf E ops.toList o [] none := fun l => by
      induction l with
      | nil => rfl
      | cons o l ih => simp only [List.map_cons, ih]
    exact this _
  unfold evRegion at h
  rw [this] at h
  exact h
end
end Go.Ev
