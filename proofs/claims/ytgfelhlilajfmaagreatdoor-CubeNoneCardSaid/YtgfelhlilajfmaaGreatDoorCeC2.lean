/-
  The canonical evaluator's operations: slices, strings, numbers, equality, lengths, interfaces.
-/
import Derived.Test.YtgfelhlilajfmaaGreatDoorCeC
import Derived.ChangeKeysEq
import Derived.Laws.StructEq
import Derived.Laws.Strings
namespace Go.CE
set_option linter.unusedVariables false
set_option linter.unusedSimpArgs false
set_option linter.unusedSectionVars false
set_option linter.unnecessarySimpa false
variable [Glob]

def VRO (g : Gho) : Option Value → Option CV → Prop
  | none, none => True
  | some v, some c => VR g v c
  | _, _ => False

section slices
variable {P : Program} {w : World} {g : Gho}

theorem bound_run {v : Value} {i : Int} {k : IntKind} {y : Nat} {code : BoundsCode} (hv : VR g v (.int k i)) (h0 : 0 ≤ i) (hy : i ≤ y) : (Instr.sliceBound v y code).run P w = .ok i.toNat w := by
  cases hv
  simp [Instr.sliceBound, asIntOf, h0, hy]

theorem ctop_le {len c : Nat} {cap : Option Nat} (hlen : len ≤ c) (hcap : ∀ k, cap = some k → c = k) {n : Nat} (h : ctop len cap n = true) : n ≤ c := by
  unfold ctop at h
  cases cap with
  | none => simp at h; omega
  | some k => have := hcap k rfl; simp at h; omega

theorem cmax_spec {len : Nat} {cap : Option Nat} {c : CV} {m : Option Nat} (h : cmax len cap (some c) = some m) : ∃ k i, c = .int k i ∧ 0 ≤ i ∧ ctop len cap i.toNat = true ∧ m = some i.toNat := by
  unfold cmax at h
  split at h
  · rename_i he; cases he
  · rename_i k i he
    cases he
    split at h
    · rename_i hc; cases h; exact ⟨_, _, rfl, hc.1, hc.2, rfl⟩
    · cases h
  · cases h
theorem chigh_spec {len : Nat} {cap m : Option Nat} {c : CV} {n : Nat} (h : chigh len cap m (some c) = some n) :
    ∃ k i, c = .int k i ∧ 0 ≤ i ∧ chok len cap i.toNat m = true ∧ n = i.toNat := by
  unfold chigh at h
  split at h
  · rename_i he; cases he
  · rename_i k i he
    cases he
    split at h
    · rename_i hc; cases h; exact ⟨_, _, rfl, hc.1, hc.2, rfl⟩
    · cases h
  · cases h
theorem clow_spec {hi : Nat} {c : CV} {n : Nat} (h : clow hi (some c) = some n) : ∃ k i, c = .int k i ∧ 0 ≤ i ∧ i.toNat ≤ hi ∧ n = i.toNat := by
  unfold clow at h
  split at h
  · rename_i he; cases he
  · rename_i k i he
    cases he
    split at h
    · rename_i hc; cases h; exact ⟨_, _, rfl, hc.1, hc.2, rfl⟩
    · cases h
  · cases h

theorem low_run {hi : Nat} {lo : Option Value} {lo' : Option CV} {l : Nat} (hlo : VRO g lo lo') (h : clow hi lo' = some l) :
    l ≤ hi ∧ ((lo = none ∧ l = 0) ∨ ∃ v, lo = some v ∧ ∀ code, (Instr.sliceBound v hi code).run P w = .ok l w) := by
  cases lo' with
  | none =>
    cases lo with
    | some _ => exact hlo.elim
    | none => simp [clow] at h; subst h; exact ⟨Nat.zero_le _, .inl ⟨rfl, rfl⟩⟩
  | some c =>
    cases lo with
    | none => exact hlo.elim
    | some v =>
      obtain ⟨k, i, rfl, h0, h1, rfl⟩ := clow_spec h
      exact ⟨h1, .inr ⟨v, rfl, fun code => bound_run hlo h0 (by omega)⟩⟩

theorem bounds_run {b : Bool} {len c : Nat} {cap : Option Nat} {lo hi mx : Option Value} {lo' hi' mx' : Option CV} {l h : Nat} {m : Option Nat} (hlo : VRO g lo lo') (hhi : VRO g hi hi') (hmx : VRO g mx mx')
    (hlen : len ≤ c) (hcap : ∀ k, cap = some k → c = k) (hb : cbounds len cap lo' hi' mx' = some (l, h, m)) :
    ∃ M, (Instr.sliceBounds b len c lo hi mx).run P w = .ok (l, h, M) w ∧ l ≤ h ∧ h ≤ M ∧ M ≤ c ∧ (∀ k, m = some k → M = k) := by
  simp only [cbounds] at hb
  split at hb
  · cases hb
  rename_i m0 h1
  split at hb
  · cases hb
  rename_i hi0 h2
  split at hb
  · cases hb
  rename_i lo0 h3
  cases hb
  cases mx' with
  | none =>
    cases mx with
    | some _ => exact hmx.elim
    | none =>
    simp [cmax] at h1
    subst h1
    obtain ⟨k2, k1⟩ := low_run (P := P) (w := w) hlo h3
    cases hi' with
    | none =>
      cases hi with
      | some _ => exact hhi.elim
      | none =>
      simp [chigh] at h2
      subst h2
      exact ⟨c, by rcases k1 with ⟨rfl, rfl⟩ | ⟨v, rfl, k1⟩ <;> simp [Instr.sliceBounds, *], k2, hlen, Nat.le_refl _, hcap⟩
    | some hv =>
      cases hi with
      | none => exact hhi.elim
      | some u =>
      obtain ⟨k, j, rfl, h0, ht, rfl⟩ := chigh_spec h2
      have hjc := ctop_le hlen hcap (show ctop len cap j.toNat = true from ht)
      have hrun : ∀ code, (Instr.sliceBound u c code).run P w = .ok j.toNat w := fun code => bound_run hhi h0 (by omega)
      exact ⟨c, by rcases k1 with ⟨rfl, e⟩ | ⟨v, rfl, k1⟩ <;> simp [Instr.sliceBounds, *], k2, hjc, Nat.le_refl _, hcap⟩
  | some mv =>
    cases mx with
    | none => exact hmx.elim
    | some um =>
    obtain ⟨km, q, rfl, q0, qt, rfl⟩ := cmax_spec h1
    have hqc := ctop_le hlen hcap qt
    have hrunm : ∀ code, (Instr.sliceBound um c code).run P w = .ok q.toNat w := fun code => bound_run hmx q0 (by omega)
    obtain ⟨k2, k1⟩ := low_run (P := P) (w := w) hlo h3
    cases hi' with
    | none => simp [chigh] at h2
    | some hv =>
      cases hi with
      | none => exact hhi.elim
      | some u =>
      obtain ⟨k, j, rfl, h0, ht, rfl⟩ := chigh_spec h2
      have hjq : j.toNat ≤ q.toNat := by simpa [chok] using ht
      have hrun : ∀ code, (Instr.sliceBound u q.toNat code).run P w = .ok j.toNat w := fun code => bound_run hhi h0 (by omega)
      exact ⟨q.toNat, by rcases k1 with ⟨rfl, e⟩ | ⟨v, rfl, k1⟩ <;> simp [Instr.sliceBounds, *], k2, hjq, hqc, by simp⟩

theorem extract_list (s : ByteArray) (a b : Nat) : (s.extract a b).data.toList = (s.data.toList.take b).drop a := by
  rw [ByteArray.data_extract, Array.toList_extract, List.extract_eq_take_drop, List.drop_take]

theorem slice_fit {w0 : World} {h : Heap} (hw : WI w0 g h w) {t : TypeId} {u : Value} {x v : CV} {lo hi mx : Option Value} {lo' hi' mx' : Option CV} (hv : VR g u x) (hlo : VRO g lo lo') (hhi : VRO g hi hi') (hmx : VRO g mx mx')
    (hc : cslice P t h x lo' hi' mx' = some v) : ∃ y, (Instr.sliceAt t u lo hi mx).run P w = .ok y w ∧ VR g y v := by
  unfold cslice at hc
  split at hc
  · rename_i s hu
    split at hc
    · cases hc
    · rename_i hm
      split at hc
      · rename_i l hi2 m hb
        cases hc
        cases hv with
        | str s =>
        have hmn : mx' = none := by simpa using hm
        subst hmn
        cases mx with
        | some _ => exact hmx.elim
        | none =>
        have hsz : (s.data.toList.map UInt8.toNat).length = s.size := by rw [List.length_map, Array.length_toList]; rfl
        rw [hsz] at hb
        obtain ⟨M, h1, h2, h3, h4, h5⟩ := bounds_run (P := P) (w := w) (b := false) (c := s.size) hlo hhi (mx := none) (mx' := none) trivial (Nat.le_refl _) (by simp) hb
        refine ⟨.string (s.extract l hi2), by simp [Instr.sliceAt, run_underlying hu, Instr.slice, h1], ?_⟩
        have := VR.str (g := g) (s.extract l hi2)
        rw [extract_list] at this
        simpa [List.map_take, List.map_drop] using this
      · cases hc
  · rename_i e hu
    cases hv
    split at hc
    · rename_i n r hs hb
      cases hc
      obtain ⟨l, h2, m⟩ := r
      obtain ⟨M, h1, h2', h3, h4, h5⟩ := bounds_run (P := P) (w := w) (b := true) (c := 0) hlo hhi hmx (Nat.le_refl _) (by simp) hb
      have : l = 0 := by omega
      subst this
      have : h2 = 0 := by omega
      subst this
      have : M = 0 := by omega
      subst this
      exact ⟨.slice none 0 0, by simp [Instr.sliceAt, run_underlying hu, Instr.slice, h1, run_sizeOf hs], .nils⟩
    · cases hc
  · rename_i e id off len sz cap hu
    split at hc
    · rename_i n l hi2 m hs hb
      split at hc
      · rename_i hn
        subst hn
        cases hc
        cases hv with
        | hs a c _ _ _ _ _ b o L hφ hle hcap haddr =>
        obtain ⟨M, h1, h2, h3, h4, h5⟩ := bounds_run (P := P) (w := w) (b := true) hlo hhi hmx hle hcap hb
        refine ⟨_, by simp only [Instr.sliceAt, Sem.run_bind, run_underlying hu, Result.andThen_ok, Instr.slice, h1, run_sizeOf hs, Sem.run_pure]; rfl, ?_⟩
        by_cases hMl : M = l
        · simp only [hMl, if_true]
          have : hi2 - l = 0 := by omega
          rw [this, Nat.sub_self]
          refine .hs _ _ _ _ _ _ _ b o L hφ (Nat.le_refl _) (fun k hk => ?_) (fun h => absurd rfl h)
          cases m with
          | none => simp at hk
          | some m => simp at hk; have := h5 m rfl; omega
        · simp only [hMl, if_false, Option.map_some]
          refine .hs _ _ _ _ _ _ _ b o L hφ (by omega) (fun k hk => ?_) (fun _ => ?_)
          · cases m with
            | none => simp at hk
            | some m => simp at hk; have := h5 m rfl; omega
          · have hc0 : c ≠ 0 := by omega
            obtain ⟨rfl, hL⟩ := haddr hc0
            refine ⟨by rw [add_none, Nat.add_assoc], ?_⟩
            have : (M - l) * n ≤ (c - l) * n := Nat.mul_le_mul_right _ (by omega)
            have h6 : (c - l) * n = c * n - l * n := Nat.sub_mul _ _ _
            have h7 : l * n ≤ c * n := Nat.mul_le_mul_right _ (by omega)
            omega
      · cases hc
    · cases hc
  · rename_i e cells len sz cap hu
    split at hc
    · rename_i n l hi2 m hs hb
      split at hc
      · rename_i hcond
        obtain ⟨rfl, hhl, hcl⟩ := hcond
        cases hc
        cases hv with
        | rs a c _ _ _ _ f h1 h2 h3 h4 h5 h6 =>
        obtain ⟨M, k1, k2, k3, k4, k5⟩ := bounds_run (P := P) (w := w) (b := true) hlo hhi hmx h1 h2 hb
        refine ⟨_, by simp only [Instr.sliceAt, Sem.run_bind, run_underlying hu, Result.andThen_ok, Instr.slice, k1, run_sizeOf hs, Sem.run_pure]; rfl, ?_⟩
        have hA : l * n + (hi2 - l) * n ≤ len * n := by
          rw [← Nat.add_mul]; exact Nat.mul_le_mul_right _ (by omega)
        have hlen : ((cells.drop (l * n)).take ((hi2 - l) * n)).length = (hi2 - l) * n := by simp; omega
        by_cases hMl : M = l
        · simp only [hMl, if_true]
          have hz : hi2 - l = 0 := by omega
          rw [hz, Nat.sub_self]
          simp only [Nat.zero_mul, List.take_zero]
          refine .rs _ _ _ _ _ _ f (Nat.le_refl _) (fun k hk => ?_) (by simp) (fun h => absurd rfl h) (fun j hj => by simp at hj) (fun j hj => by simp at hj)
          cases m with
          | none => simp at hk
          | some m => simp at hk; have := k5 m rfl; omega
        · simp only [hMl, if_false, Option.map_some]
          have hcap : ∀ k, Option.map (fun x => x - l) m = some k → M - l = k := by
            intro k hk
            cases m with
            | none => simp at hk
            | some m => simp at hk; have := k5 m rfl; omega
          by_cases hne : (cells.drop (l * n)).take ((hi2 - l) * n) = []
          · rw [hne] at hlen ⊢
            exact .rs _ _ _ _ _ _ f (by omega) hcap (by simpa using hlen) (fun h => absurd rfl h) (fun j hj => by simp at hj) (fun j hj => by simp at hj)
          · have hcne : cells ≠ [] := by rintro rfl; simp at hne
            obtain ⟨ab, ao, asp⟩ := a
            have hsp : asp = none := h4 hcne
            subst hsp
            rw [add_none]
            refine .rs _ _ _ _ _ _ (fun j => f (l * n + j)) (by omega) hcap hlen (fun _ => rfl) (fun j hj => ?_) (fun j hj => ?_)
            · rw [hlen] at hj
              have := h5 (l * n + j) (by omega)
              simpa [Nat.add_assoc] using this
            · rw [hlen] at hj
              have := h6 (l * n + j) (by omega)
              simpa [List.getD, List.getElem?_take, hj] using this
      · cases hc
    · cases hc
  · rename_i n e id off hu
    split at hc
    · rename_i sz l hi2 m cells hs hb hrow
      split at hc
      · rename_i hle
        cases hc
        cases hv with
        | hp _ _ b o L hφ =>
        obtain ⟨M, h1, h2, h3, h4, h5⟩ := bounds_run (P := P) (w := w) (b := false) hlo hhi hmx (Nat.le_refl n) (by simp) hb
        have hL := (hw.blk id b o L _ hφ hrow).1
        refine ⟨_, by simp only [Instr.sliceAt, Sem.run_bind, run_underlying hu, Result.andThen_ok, Instr.sureAddr, h1, run_sizeOf hs, Sem.run_pure]; rfl, ?_⟩
        have hcap : ∀ k, Option.map (fun x => x - l) m = some k → M - l = k := by
          intro k hk
          cases m with
          | none => simp at hk
          | some m => simp at hk; have := h5 m rfl; omega
        refine .hs _ _ _ _ _ _ _ b o L hφ (by omega) hcap (fun hne => ?_)
        have hMl : M ≠ l := by omega
        simp only [hMl, if_false]
        refine ⟨by rw [add_none, Nat.add_assoc], ?_⟩
        have h6 : l * sz + (M - l) * sz ≤ n * sz := by rw [← Nat.add_mul]; exact Nat.mul_le_mul_right _ (by omega)
        omega
      · cases hc
    · cases hc
  · cases hc

end slices
end Go.CE
