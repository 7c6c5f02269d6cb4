/-
  The canonical evaluator's operations: strings, numbers, equality, lengths, interfaces.
-/
import Derived.Test.YtgfelhlilajfmaaGreatDoorCeC2
namespace Go.CE
set_option linter.unusedVariables false
set_option linter.unusedSimpArgs false
set_option linter.unusedSectionVars false
set_option linter.unnecessarySimpa false
variable [Glob]
section
variable {P : Program} {w : World} {g : Gho}

theorem str_length (s : ByteArray) : (s.data.toList.map UInt8.toNat).length = s.size := by rw [List.length_map, Array.length_toList]; rfl

theorem toNat_inj {l m : List UInt8} : l.map UInt8.toNat = m.map UInt8.toNat ↔ l = m := by
  constructor
  · intro h
    exact (List.map_inj_right (f := UInt8.toNat) (fun x y e => UInt8.toNat_inj.1 e)).1 h
  · rintro rfl; rfl

theorem str_eq (a b : ByteArray) : (a.toList == b.toList) = (a.data.toList.map UInt8.toNat == b.data.toList.map UInt8.toNat) := by
  rw [ByteArray.toList_eq, ByteArray.toList_eq, Bool.eq_iff_iff, beq_iff_eq, beq_iff_eq, toNat_inj]

theorem str_less : ∀ (a b : List UInt8), Op.bytesLess a b = strLess (a.map UInt8.toNat) (b.map UInt8.toNat)
  | [], [] => rfl
  | _ :: _, [] => rfl
  | [], _ :: _ => rfl
  | a :: x, b :: y => by
    simp only [Op.bytesLess, List.map_cons, strLess, str_less x y]
    congr 1
    congr 1
    rw [Bool.eq_iff_iff, beq_iff_eq, beq_iff_eq, UInt8.toNat_inj]

theorem str_fit {op : BinOp} {a b : ByteArray} {v : CV} (h : strBin op (a.data.toList.map UInt8.toNat) (b.data.toList.map UInt8.toNat) = some v) :
    ∃ y, (Op.stringOp op a b).run P w = .ok y w ∧ VR g y v := by
  have he := str_eq a b
  have hl : Op.bytesLess a.toList b.toList = strLess (a.data.toList.map UInt8.toNat) (b.data.toList.map UInt8.toNat) := by rw [ByteArray.toList_eq, ByteArray.toList_eq, str_less]
  unfold strBin at h
  split at h
  · split at h
    · rename_i hle
      cases h
      rw [str_length, str_length] at hle
      refine ⟨.string (a ++ b), ?_, ?_⟩
      · have : ¬ (((a.size + b.size : Nat) : Int) > IntKind.i64.max) := by
          have : IntKind.i64.max = 9223372036854775807 := by decide
          omega
        simp only [Op.stringOp, this, if_false]
        rfl
      · have := VR.str (g := g) (a ++ b)
        rw [ByteArray.data_append, Array.toList_append, List.map_append] at this
        exact this
    · cases h
  all_goals first
    | (cases h; exact ⟨_, by simp only [Op.stringOp]; rfl, by simp only [he, hl]; exact .bool _⟩)
    | cases h

set_option maxHeartbeats 4000000 in
theorem eq_fit : ∀ (d : Nat) {t : TypeId} {a b : CV} {u v : Value} {r : Bool} (w : World), ceq P d t a b = some r → VR g u a → VR g v b → (Op.equalIn d t u v).run P w = .ok r w := by
  intro d
  induction d with
  | zero => intro t a b u v r w h; simp [ceq] at h
  | succ d ih =>
    intro t a b u v r w h ha hb
    simp only [ceq] at h
    split at h
    case h_1 hu => cases ha; cases hb; cases h; simp only [Op.equalIn, Sem.run_bind, run_underlying hu, Result.andThen_ok]; rfl
    case h_2 hu =>
      cases ha; cases hb
      split at h
      · rename_i hk; subst hk; cases h; simp only [Op.equalIn, Sem.run_bind, run_underlying hu, Result.andThen_ok]; rfl
      · cases h
    case h_3 hu =>
      cases ha with
      | str x => cases hb with
        | str y => cases h; rw [← str_eq]; simp [Op.equalIn, run_underlying hu, beq_toListBytes]
    case h_4 hu => cases ha; cases hb; cases h; simp only [Op.equalIn, Sem.run_bind, run_underlying hu, Result.andThen_ok]; rfl
    case h_5 hu => cases ha; cases hb; cases h; simp only [Op.equalIn, Sem.run_bind, run_underlying hu, Result.andThen_ok]; rfl
    case h_6 hu => cases ha; cases hb; cases h; simp only [Op.equalIn, Sem.run_bind, run_underlying hu, Result.andThen_ok]; rfl
    case h_7 hu => cases ha; cases hb; cases h; simp only [Op.equalIn, Sem.run_bind, run_underlying hu, Result.andThen_ok]; rfl
    case h_8 hu => cases ha; cases hb; cases h; simp only [Op.equalIn, Sem.run_bind, run_underlying hu, Result.andThen_ok]; rfl
    case h_9 hu => cases ha; cases hb; cases h; simp only [Op.equalIn, Sem.run_bind, run_underlying hu, Result.andThen_ok]; rfl
    case h_10 hu => cases ha; cases hb; cases h; simp only [Op.equalIn, Sem.run_bind, run_underlying hu, Result.andThen_ok]; rfl
    case h_11 hu => cases ha; cases hb; cases h; simp only [Op.equalIn, Sem.run_bind, run_underlying hu, Result.andThen_ok]; rfl
    case h_12 tx vx ty vy hu =>
      cases ha with
      | iface _ ux _ h1 => cases hb with
        | iface _ uy _ h2 =>
          split at h
          · rename_i hne; cases h; simp [Op.equalIn, run_underlying hu, hne]
          · rename_i he
            have he : tx = ty := by simpa using he
            split at h
            · rename_i i hi
              split at h
              · rename_i hcmp
                simp [Op.equalIn, run_underlying hu, he, run_typeInfo (he ▸ hi), hcmp]
                rw [← he]
                exact ih w h h1 h2
              · cases h
            · cases h
    case h_13 fields xs ys hu =>
      cases ha with
      | agg xs' _ k1 k2 => cases hb with
        | agg ys' _ k3 k4 =>
          split at h
          · cases h
          · rename_i hst
            have hf : P.fieldsOf t = fields := by simp [Program.fieldsOf, hu]
            rw [run_equalIn_struct w d t xs' ys' (by rw [hf]; exact hu) (by simpa using hst), hf]
            have hx := VRL_iff.2 ⟨k1, k2⟩
            have hy := VRL_iff.2 ⟨k3, k4⟩
            clear hu hf k1 k2 k3 k4 hst
            generalize fields.toList = fs at h
            induction fs with
            | nil => simp at h; subst h; simp [Op.eqFields]
            | cons f fs ihf =>
              simp only [List.foldr_cons] at h
              split at h
              · rename_i hn
                simp only [Op.eqFields, hn, ne_eq, not_true_eq_false, if_false]
                exact ihf h
              · rename_i hn
                simp only [Op.eqFields, hn, ne_eq, not_false_eq_true, if_true, Sem.run_bind]
                split at h
                · rename_i a' b' hpa hpb
                  obtain ⟨u1, e1, r1⟩ := part_VR hpa hx w
                  obtain ⟨u2, e2, r2⟩ := part_VR hpb hy w
                  simp only [e1, e2, Result.andThen_ok]
                  split at h
                  · rename_i hq
                    rw [ih w hq r1 r2]
                    simp only [Result.andThen_ok, Bool.not_true, Bool.false_eq_true, if_false]
                    exact ihf h
                  · rename_i hq
                    rw [ih w hq r1 r2]
                    cases h
                    simp
                  · cases h
                · cases h
    case h_14 hu => cases ha; cases hb; cases h; simp only [Op.equalIn, Sem.run_bind, run_underlying hu, Result.andThen_ok]; rfl
    case h_15 hu => cases ha; cases hb; cases h; simp only [Op.equalIn, Sem.run_bind, run_underlying hu, Result.andThen_ok]; rfl
    case h_16 hu => cases ha; cases hb; cases h; simp only [Op.equalIn, Sem.run_bind, run_underlying hu, Result.andThen_ok]; rfl
    case h_17 hu => cases ha; cases hb; cases h; simp only [Op.equalIn, Sem.run_bind, run_underlying hu, Result.andThen_ok]; rfl
    case h_18 hu => cases ha; cases hb; cases h; simp only [Op.equalIn, Sem.run_bind, run_underlying hu, Result.andThen_ok]; rfl
    case h_19 hu => cases ha; cases hb; cases h; simp only [Op.equalIn, Sem.run_bind, run_underlying hu, Result.andThen_ok]; rfl
    case h_20 hu => cases ha; cases hb; cases h; simp only [Op.equalIn, Sem.run_bind, run_underlying hu, Result.andThen_ok]; rfl
    case h_21 hu => cases ha; cases hb; cases h; simp only [Op.equalIn, Sem.run_bind, run_underlying hu, Result.andThen_ok]; rfl
    case h_22 hu => cases ha; cases hb; cases h; simp only [Op.equalIn, Sem.run_bind, run_underlying hu, Result.andThen_ok]; rfl
    case h_23 hu => cases ha; cases hb; cases h; simp only [Op.equalIn, Sem.run_bind, run_underlying hu, Result.andThen_ok]; rfl
    case h_24 hu => cases ha; cases hb; cases h; simp only [Op.equalIn, Sem.run_bind, run_underlying hu, Result.andThen_ok]; rfl
    all_goals cases h

end
end Go.CE
