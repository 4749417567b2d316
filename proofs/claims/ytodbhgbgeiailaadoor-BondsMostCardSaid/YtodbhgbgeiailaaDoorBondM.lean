/- The edges that are taken, one by one: the program. Conditions: the graph is one; the table. -/
import Derived.Test.YtodbhgbgeiailaaDoorBondS
namespace Go.Proofs.YtodbhgbgeiailaaDoor
open Go.RowKit Go.Shelf
attribute [local go_sem ↓] w_and w_or w_xor w_andNot w_and1 w_and255 w_xor1 w_or0 w_shl w_shl1 w_shr w_sub w_add w_sub1 w_add1
attribute [local go_sem] w_eq0 w_ne0 w_eq1 w_eq w_ne

set_option maxRecDepth 100000 in
set_option maxHeartbeats 1000000 in
theorem bonds_ask (Q N n c : Nat) (A : Option Addr) (es : List Ed) (w : World) (hl : es.length = n) (hg : GoodG N es) (hk : Blk w Q 24 #[.int .i64 N, .slice A n c]) (hr : Els w w.heap.size 3 Ed.cells A es) (ht : TabOk w) :
    Calls Tryd.prog 18 #[.pointer (some ⟨Q, 0, none⟩)] w fun e w1 => ∃ P, e = .returned (.pointer (some ⟨P, 0, none⟩)) ∧ Below w.heap.size w w1 ∧ ∀ x : BitVec 32, (∀ j, x.getLsbD j = true → j < N) →
      Calls Tryd.prog 20 #[.pointer (some ⟨P, 0, none⟩), .int .u32 (wN x)] w1 fun e w2 => e = .returned (.int .i64 (bondW es x)) ∧ Below w.heap.size w1 w2 ∧ TabOk w2 := by
  have HNEAR := Lib.hid (graph_Near N A n c es w hl hg hr)
  have hmk : ∀ W : World, (Instr.makeMap 46 none).run Tryd.prog W = .ok (.map (some W.heap.size)) (W.alloc (.map #[] 0)) := fun W => by rw [run_makeMap]
  have c0 := hk.cell 0
  have c1 := hk.cell 1
  have HT := Lib.hid ht
  clear hk hr hl ht
  go_enter Tryd.func18, Tryd.ntmps18
  go_wp2_with fail
  refine HNEAR.out.mono ?_
  clear HNEAR
  rintro e v1 ⟨A', rfl, hb1, how⟩
  have hz1 := hb1.size
  obtain ⟨r, hr⟩ : ∃ r, r = v1.heap.size := ⟨_, rfl⟩
  have hmB := (MapB.made (kv := kvW) v1).alloc (.cells #[.slice A' N N, .map (some r)] 48)
  have hkB := Blk.new (v1.alloc (.map #[] 0)) 48 #[.slice A' N N, .map (some r)]
  rw [size_alloc'] at hkB
  obtain ⟨V, hV⟩ : ∃ V, V = (v1.alloc (.map #[] 0)).alloc (.cells #[.slice A' N N, .map (some r)] 48) := ⟨_, rfl⟩
  rw [← hr] at hkB hmB
  rw [← hV] at hkB hmB
  have hrV : Els V r 1 wcell A' (nearL N es) := by
    rw [hV, hr]
    exact how.els.below (((Below.refl _ v1).alloc (Nat.le_refl _) _).alloc (by rw [size_alloc']; omega) _)
  have hbV : Below w.heap.size w V := by rw [hV]; exact (hb1.alloc hz1 _).alloc (by rw [size_alloc']; omega) _
  have htV : TabOk V := HT.out.below hbV (Nat.lt_of_le_of_lt (Nat.zero_le _) HT.out.1)
  have hzV : V.heap.size = r + 1 + 1 := by rw [hV, hr]; simp only [size_alloc']
  have h0w := HT.out.1
  have HFIN : Hid (Below w.heap.size w V ∧ ∀ x : BitVec 32, (∀ j, x.getLsbD j = true → j < N) →
      Calls Tryd.prog 20 #[.pointer (some ⟨r + 1, 0, none⟩), .int .u32 (wN x)] V fun e w2 => e = .returned (.int .i64 (bondW es x)) ∧ Below w.heap.size V w2 ∧ TabOk w2) := Lib.hid ⟨hbV, fun x hx => (bonds_many N (r + 1) r r N A' es hg (Nat.le_refl _) (by omega) (bitsL x).length x V [] (Nat.le_refl _) hx hkB hrV (by omega) hmB (Memo.nil _) htV).mono (by
        rintro e w2 ⟨rfl, hh, ht2, _⟩
        exact ⟨rfl, hh.to (by omega) (by simp; omega), ht2⟩)⟩
  have HV := Lib.hid hV
  have HR := Lib.hid hr
  clear hmB hkB hrV hbV htV hzV hV hr hb1 how c0 c1
  go_wp2_with fail
  rw [← HR.out, ← HV.out]
  go_ret
  exact ⟨r + 1, by first | rfl | (rw [HR.out]), HFIN.out.1, HFIN.out.2⟩
set_option maxRecDepth 100000 in
set_option maxHeartbeats 1000000 in
theorem bonds_Most_bad (N : Int) (A : Option Addr) (n c : Nat) (l : List Ed) (w : World) (hl : l.length = n) (hn : n ≤ maxLen) (he : graphCheck N l ≠ 0) (hr : Els w w.heap.size 3 Ed.cells A l) :
    Calls Tryd.prog 7 #[.agg #[.int .i64 N, .slice A n c]] w fun e w' => e = .returned (.tuple #[.slice none 0 0, .int .i64 (graphCheck N l)]) ∧ Below w.heap.size w w' := by
  have HE := Lib.hid (graph_Check N A n c l (w.alloc (.cells #[.int .i64 N, .slice A n c] 24)) hl hn ((hr.alloc (Nat.le_refl _) _).more (by rw [size_alloc']; omega)))
  have HB0 := Lib.hid ((Below.refl w.heap.size w).alloc (Nat.le_refl _) (.cells #[.int .i64 N, .slice A n c] 24))
  have h1 : (graphCheck N l != 0) = true := by simpa using he
  generalize graphCheck N l = x at HE h1
  clear hl hn hr he
  go_enter Tryd.func7, Tryd.ntmps7
  go_wp2_with fail
  refine HE.out.mono ?_
  clear HE
  rintro e v1 ⟨rfl, hb1⟩
  rw [size_alloc'] at hb1
  have HB1 := Lib.hid (HB0.out.trans (hb1.mono (by omega)))
  clear hb1 HB0
  go_wp2_with fail
  go_ret2
  exact ⟨rfl, HB1.out⟩
end Go.Proofs.YtodbhgbgeiailaaDoor
