/- The statement TopLeft. Conditions: none. -/
import Derived.Test.YtdinknpagklkjaaRows
import Derived.Test.YtdinknpagklkjaaTopLeft1
import Derived.Test.YtdinknpagklkjaaTopLeft20
namespace Go.Proofs.Ytdinknpagklkjaa.lawTopLeft
open Go.ChangeShapes Go.WideShapes Go.ChangeAt Go.RowKit Go.Deep Go.Joins

theorem own : ownKnob Try.prog.godebug = none := by kernel_rfl
theorem laidOut : laidOutB Try.prog = true := by kernel_rfl

set_option maxRecDepth 100000 in
theorem lifted (os : Os) (started : os.Started) (H : Type) (enc : TypeId × Value → H) :
    ReturnsInHanded {} Try.checked os 5 .any (Rows.topLeftSpec.pre6 enc Try.prog Try.f5 Rows.topLeftRow.domain false) (Rows.topLeftSpec.post enc Try.prog Try.f5 false true false false) := by
  refine returnsInHanded_of_change_sized (C := Try.checked) own started (by kernel_rfl) Try.func5
    (ChangeSpec.witness6 (enc := enc) (C := Try.checked) false ⟨#[], #[.slice none 0 0, .slice none 0 0, .slice none 0 0, .int .i64 0], []⟩ 8 (by kernel_rfl) (by kernel_rfl) (by kernel_rfl) (by kernel_rfl)) ?_
  intro W base args ds gs before hval0 hW hcnd hsz0 _
  have hval : ∀ (j : Nat) t v, Try.f5.params[j]? = some t → args[j]? = some v → Value.okWide Try.prog W .any base t v := hval0
  have hW' := hW
  obtain ⟨p, q, hA0, hV, rfl, hfz, hnd⟩ := hW
  have hA : DataW.TrodAll enc Try.prog W 0 (fun _ => true) true Try.f5.params.toList args.toList ds p := hA0
  rw [Try.params5] at hA hval
  have hsz := hsz0
  rw [Try.params5] at hsz
  obtain ⟨v0, vs0, d0, ds0, p0, q0, hargs, rfl, rfl, h0, r0⟩ := trodAll_cons hA
  obtain ⟨v1, vs1, d1, ds1, p1, q1, rfl, rfl, rfl, h1, r1⟩ := trodAll_cons r0
  obtain ⟨v2, vs2, d2, ds2, p2, q2, rfl, rfl, rfl, h2, r2⟩ := trodAll_cons r1
  obtain ⟨v3, vs3, d3, ds3, p3, q3, rfl, rfl, rfl, h3, r3⟩ := trodAll_cons r2
  obtain ⟨rfl, rfl, rfl⟩ := trodAll_nil r3
  obtain rfl : args = #[v0, v1, v2, v3] := by cases args; simp_all
  obtain ⟨rfl, rfl⟩ := trodVars_none hV
  have lt0 := trod_blocks h0
  obtain ⟨A0, n0, c0, rfl⟩ := okWide_slice Try.underlying22 (hval 0 22 v0 rfl rfl)
  obtain ⟨a0, e0, ga0⟩ := open_one (opens_slice Try.underlying22 (show Try.prog.cellsOf 39 = 2 from by kernel_rfl) (by omega) (opens_struct2 Try.underlying39 (by kernel_rfl) (by kernel_rfl) (opens_i64 Try.underlying3) (opens_u32 Try.underlying26))) rfl h0
  injection e0 with e1 e2 e3
  subst e1 e2 e3
  have lt1 := trod_blocks h1
  obtain ⟨A1, n1, c1, rfl⟩ := okWide_slice Try.underlying23 (hval 1 23 v1 rfl rfl)
  obtain ⟨a1, e1, ga1⟩ := open_one (opens_slice Try.underlying23 (show Try.prog.cellsOf 26 = 1 from by kernel_rfl) (by omega) (opens_u32 Try.underlying26)) rfl h1
  injection e1 with e1 e2 e3
  subst e1 e2 e3
  have lt2 := trod_blocks h2
  obtain ⟨A2, n2, c2, rfl⟩ := okWide_slice Try.underlying24 (hval 2 24 v2 rfl rfl)
  obtain ⟨a2, e2, ga2⟩ := open_one (opens_slice Try.underlying24 (show Try.prog.cellsOf 41 = 3 from by kernel_rfl) (by omega) (opens_struct3 Try.underlying41 (by kernel_rfl) (by kernel_rfl) (opens_i64 Try.underlying3) (opens_i64 Try.underlying3) (opens_i64 Try.underlying3))) rfl h2
  injection e2 with e1 e2 e3
  subst e1 e2 e3
  have lt3 := trod_blocks h3
  obtain ⟨a3, rfl, rfl, rfl, w3⟩ := open_int Try.underlying3 (hval 3 3 v3 rfl rfl) h3
  have ga3 := okI_of w3
  have hb2 : a2.l.length * 24 ≤ 140737488351232 := by
    rcases sized_len Try.underlying24 h2 with h | ⟨el, sp, hd, hle⟩
    · rw [h]; decide
    · have hby : Try.checked.prog.bytesOf 41 = 24 := by kernel_rfl
      have := sized_slice hsz (j := 2) (t := 24) (e := 41) (elems := el) (spare := sp) rfl (by rw [hd]; rfl) Try.underlying24
      rw [hby] at this
      have h2 := Nat.mul_le_mul_right 24 (show a2.l.length ≤ el.length + sp.length by omega)
      unfold reachBytes at this
      omega
  clear hA0 hval0
  refine (TopLeft_row a0 a1 a2 a3 W ga0 ga1 ga2 ga3 hb2).mono fun e W' ⟨he, bel⟩ => ?_
  subst he
  exact ⟨_, rfl, _, _, _, [], _, [], hW', trodAll_mk1 (shut_bool Try.underlying4 _), (trodAll_cons_mk (Below.trod laidOut (by kernel_rfl) (of_decide_eq_true (by kernel_rfl)) h0 bel lt0) (trodAll_cons_mk (Below.trod laidOut (by kernel_rfl) (of_decide_eq_true (by kernel_rfl)) h1 bel lt1) (trodAll_cons_mk (Below.trod laidOut (by kernel_rfl) (of_decide_eq_true (by kernel_rfl)) h2 bel lt2) (trodAll_cons_mk (Below.trod laidOut (by kernel_rfl) (of_decide_eq_true (by kernel_rfl)) h3 bel lt3) trodAll_mk0)))), rfl, bel.frame _, fun h => by cases h⟩

theorem over : Rows.topLeftRow.holds Try.pinned (OpenSpec.ofChange Rows.topLeftSpec) :=
  OpenClaim.holds_of_wide 5 Try.f5 rfl rfl rfl rfl rfl rfl rfl ⟨rfl, rfl, rfl, rfl, rfl⟩ rfl rfl rfl rfl rfl (by kernel_rfl) Try.func5 (by kernel_rfl)
    (of_decide_eq_true (by kernel_rfl)) (by unfold Func.isWrapper; first | (rw [if_pos (by decide +kernel)]; kernel_rfl) | (rw [if_neg (by decide +kernel)]; exact ⟨rfl, rfl⟩))
    (fun os started H enc _ => lifted os started H enc)

/-- THE STATEMENT. -/
theorem proved : Rows.TopLeftSaid := over
#print axioms proved
end Go.Proofs.Ytdinknpagklkjaa.lawTopLeft
