/- The statement CrewPlays. Conditions: none. -/
import Derived.Test.YtdinknpagklkjaaRows
import Derived.Test.YtdinknpagklkjaaCrewPlays1
import Derived.Test.YtdinknpagklkjaaCrewPlays27
namespace Go.Proofs.Ytdinknpagklkjaa.lawCrewPlays
open Go.ChangeShapes Go.WideShapes Go.ChangeAt Go.RowKit Go.Deep Go.Joins

theorem own : ownKnob Try.prog.godebug = none := by kernel_rfl
theorem laidOut : laidOutB Try.prog = true := by kernel_rfl

set_option maxRecDepth 100000 in
theorem lifted (os : Os) (started : os.Started) (H : Type) (enc : TypeId × Value → H) :
    ReturnsInHanded {} Try.checked os 11 .any (Rows.crewPlaysSpec.pre6 enc Try.prog Try.f11 Rows.crewPlaysRow.domain false) (Rows.crewPlaysSpec.post enc Try.prog Try.f11 false true false false) := by
  refine returnsInHanded_of_change (C := Try.checked) own started (by kernel_rfl) Try.func11
    (ChangeSpec.witness6 (enc := enc) (C := Try.checked) false ⟨#[], #[.slice none 0 0, .slice none 0 0, .slice none 0 0], []⟩ 8 (by kernel_rfl) (by kernel_rfl) (by kernel_rfl) (by kernel_rfl)) ?_
  intro W base args ds gs before hval0 hW hcnd _
  have hval : ∀ (j : Nat) t v, Try.f11.params[j]? = some t → args[j]? = some v → Value.okWide Try.prog W .any base t v := hval0
  have hW' := hW
  obtain ⟨p, q, hA0, hV, rfl, hfz, hnd⟩ := hW
  have hA : DataW.TrodAll enc Try.prog W 0 (fun _ => true) true Try.f11.params.toList args.toList ds p := hA0
  rw [Try.params11] at hA hval
  obtain ⟨v0, vs0, d0, ds0, p0, q0, hargs, rfl, rfl, h0, r0⟩ := trodAll_cons hA
  obtain ⟨v1, vs1, d1, ds1, p1, q1, rfl, rfl, rfl, h1, r1⟩ := trodAll_cons r0
  obtain ⟨v2, vs2, d2, ds2, p2, q2, rfl, rfl, rfl, h2, r2⟩ := trodAll_cons r1
  obtain ⟨rfl, rfl, rfl⟩ := trodAll_nil r2
  obtain rfl : args = #[v0, v1, v2] := by cases args; simp_all
  obtain ⟨rfl, rfl⟩ := trodVars_none hV
  have lt0 := trod_blocks h0
  obtain ⟨A0, n0, c0, rfl⟩ := okWide_slice Try.underlying22 (hval 0 22 v0 rfl rfl)
  obtain ⟨a0, e0, ga0⟩ := open_one (opens_slice Try.underlying22 (show Try.prog.cellsOf 39 = 2 from by kernel_rfl) (by omega) (opens_struct2 Try.underlying39 (by kernel_rfl) (by kernel_rfl) (opens_i64 Try.underlying3) (opens_u32 Try.underlying26))) rfl h0
  injection e0 with e1 e2 e3
  subst e1 e2 e3
  have lt1 := trod_blocks h1
  obtain ⟨A1, n1, c1, rfl⟩ := okWide_slice Try.underlying23 (hval 1 23 v1 rfl rfl)
  obtain ⟨a1, e1, ga1⟩ := open_one (opens_slice Try.underlying23 (show Try.prog.cellsOf 26 = 1 from by kernel_rfl) (by omega) (opens_u32 Try.underlying26)) rfl h1
  injection e1 with e1 e2 e3
  subst e1 e2 e3
  have lt2 := trod_blocks h2
  obtain ⟨A2, n2, c2, rfl⟩ := okWide_slice Try.underlying24 (hval 2 24 v2 rfl rfl)
  obtain ⟨a2, e2, ga2⟩ := open_one (opens_slice Try.underlying24 (show Try.prog.cellsOf 41 = 3 from by kernel_rfl) (by omega) (opens_struct3 Try.underlying41 (by kernel_rfl) (by kernel_rfl) (opens_i64 Try.underlying3) (opens_i64 Try.underlying3) (opens_i64 Try.underlying3))) rfl h2
  injection e2 with e1 e2 e3
  subst e1 e2 e3
  clear hA0 hval0
  refine (CrewPlays_row a0 a1 a2 W ga0 ga1 ga2).mono fun e W' ⟨he, bel⟩ => ?_
  subst he
  exact ⟨_, rfl, _, _, _, [], _, [], hW', trodAll_mk1 (shut_bool Try.underlying4 _), (trodAll_cons_mk (Below.trod laidOut (by kernel_rfl) (of_decide_eq_true (by kernel_rfl)) h0 bel lt0) (trodAll_cons_mk (Below.trod laidOut (by kernel_rfl) (of_decide_eq_true (by kernel_rfl)) h1 bel lt1) (trodAll_cons_mk (Below.trod laidOut (by kernel_rfl) (of_decide_eq_true (by kernel_rfl)) h2 bel lt2) trodAll_mk0))), rfl, bel.frame _, fun h => by cases h⟩

theorem over : Rows.crewPlaysRow.holds Try.pinned (OpenSpec.ofChange Rows.crewPlaysSpec) :=
  OpenClaim.holds_of_wide 11 Try.f11 rfl rfl rfl rfl rfl rfl rfl ⟨rfl, rfl, rfl, rfl, rfl⟩ rfl rfl rfl rfl rfl (by kernel_rfl) Try.func11 (by kernel_rfl)
    (of_decide_eq_true (by kernel_rfl)) (by unfold Func.isWrapper; first | (rw [if_pos (by decide +kernel)]; kernel_rfl) | (rw [if_neg (by decide +kernel)]; exact ⟨rfl, rfl⟩))
    (fun os started H enc _ => lifted os started H enc)

/-- THE STATEMENT. -/
theorem proved : Rows.CrewPlaysSaid := over
#print axioms proved
end Go.Proofs.Ytdinknpagklkjaa.lawCrewPlays
