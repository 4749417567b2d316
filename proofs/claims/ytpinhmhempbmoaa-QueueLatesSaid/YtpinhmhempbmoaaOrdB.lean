/- The first order of which a number is the least: what the program's search tells. Conditions: the number's function tells wt of each order. -/
import Derived.Test.YtpinhmhempbmoaaOrdA
import Derived.Test.YtpinhmhempbmoaaClone1
namespace Go.Proofs.Ytpinhmhempbmoaa
open Go.RowKit Go.Shelf
attribute [local go_sem] Oper.semAt_some

/-- The three boxes: the best by now. -/
def BestSt (S b n : Nat) (o : Option (List Nat × Int)) (W : World) : Prop :=
  match o with
  | none => Blk W (S + 1 + 1) 28 #[.slice none 0 0] ∧ Blk W (S + 1 + 1 + 1) 2 #[.int .i64 0] ∧ Blk W (S + 1 + 1 + 1 + 1) 4 #[.bool false]
  | some (q, x) => (∃ A cap, Blk W (S + 1 + 1) 28 #[.slice A n cap] ∧ Own W b 3 1 icell A cap (intsOf q)) ∧ Blk W (S + 1 + 1 + 1) 2 #[.int .i64 x] ∧ Blk W (S + 1 + 1 + 1 + 1) 4 #[.bool true]
theorem own_heldO {α : Type} {ex : List Nat} {w w' : World} {B c cap : Nat} {e : TypeId} {f : α → List Value} {A : Option Addr} {l : List α} (h : Own w B e c f A cap l) (hh : Held ex w w') (hx : ∀ k ∈ ex, k < B) : Own w' B e c f A cap l := by
  refine ⟨h.1, h.2.1, ?_⟩
  rcases h.2.2 with hn | ⟨g', cp, cur, hv, hb, hg, r⟩
  · exact .inl hn
  · refine .inr ⟨g', cp, cur, hv, hb, (hh.block g' (lt_of_block hg) (fun hm => ?_)).trans hg, r⟩
    have := hx g' hm
    omega
theorem BestSt.held {S b n : Nat} {o : Option (List Nat × Int)} {W W' : World} {ex : List Nat} (h : BestSt S b n o W) (hh : Held ex W W') (h1 : S + 1 + 1 ∉ ex) (h2 : S + 1 + 1 + 1 ∉ ex) (h3 : S + 1 + 1 + 1 + 1 ∉ ex) (hx : ∀ k ∈ ex, k < b) : BestSt S b n o W' := by
  cases o with
  | none => exact ⟨Blk.held hh h.1 h1, Blk.held hh h.2.1 h2, Blk.held hh h.2.2 h3⟩
  | some p =>
    obtain ⟨q, x⟩ := p
    obtain ⟨⟨A, cap, ha, ho⟩, hb, hc⟩ := h
    exact ⟨⟨A, cap, Blk.held hh ha h1, own_heldO ho hh hx⟩, Blk.held hh hb h2, Blk.held hh hc h3⟩
theorem BestSt.kept {S b n : Nat} {o : Option (List Nat × Int)} {W W' : World} {row : Option Nat} (h : BestSt S b n o W) (hg : W.grownBy W' row) (hrow : ∀ r, row = some r → ∃ o : Obj, W.heap[r]? = some o ∧ o.isCells = false) : BestSt S b n o W' := by
  cases o with
  | none => exact ⟨blk_kept h.1 hg hrow, blk_kept h.2.1 hg hrow, blk_kept h.2.2 hg hrow⟩
  | some p =>
    obtain ⟨q, x⟩ := p
    obtain ⟨⟨A, cap, ha, ho⟩, hb, hc⟩ := h
    exact ⟨⟨A, cap, blk_kept ha hg hrow, own_kept ho hg hrow⟩, blk_kept hb hg hrow, blk_kept hc hg hrow⟩

set_option maxRecDepth 100000 in
set_option maxHeartbeats 1000000 in
theorem queue_best (n : Nat) (hn : n ≤ 7) (F : FuncId) (caps : Array Value) (wt : List Nat → Int) (w : World) (ent : Ent Try.prog F)
    (hof : ∀ (x : List Nat) (A : Option Addr) (c : Nat) (v : World), x.length = n → (∀ i ∈ x, i < n) → Below w.heap.size w v → Els v v.heap.size 1 icell A (intsOf x) → Calls Try.prog F (#[.slice A n c] ++ caps) v fun e w' => e = .returned (.int .i64 (wt x)) ∧ Below v.heap.size v w') :
    Calls Try.prog 45 #[.int .i64 n, .func (.func F) #[] caps] w fun e w' => ∃ (A' : Option Addr) (cap : Nat) (q : List Nat) (x : Int), e = .returned (.tuple #[.slice A' n cap, .int .i64 x]) ∧ Below w.heap.size w w' ∧ bestF wt (permsF n n []) = some (q, x) ∧ Els w' w'.heap.size 1 icell A' (intsOf q) := by
  have HOF := Lib.hid hof
  have hent : ∀ (args : Array Value) (w : World), (callFunc F args).run Try.prog w = .ok (.enter F args) w := ent
  clear hof ent
  refine (callsIn_wide (n := 9)).1 ?_
  refine callsIn_of_wp_marks Try.func45 rfl trivial ?_ rfl
  simp only [Try.ntmps45, List.size_toArray, List.length_cons, List.length_nil, Nat.reduceAdd, Nat.reduceSub, Array.replicate_succ, Array.replicate_zero, List.push_toArray, List.append_toArray, List.nil_append, List.cons_append]
  gi_wp2_with fail
  obtain ⟨S, hS⟩ : ∃ S, S = w.heap.size := ⟨_, rfl⟩
  obtain ⟨W1, hW1⟩ : ∃ W1, W1 = ((((w.alloc (.cells #[.int .i64 n] 3)).alloc (.cells #[.func (.func F) #[] caps] 85)).alloc (.cells #[.slice none 0 0] 28)).alloc (.cells #[.int .i64 0] 2)).alloc (.cells #[.bool false] 4) := ⟨_, rfl⟩
  have b0 := (Blk.new w 3 #[.int .i64 n])
  have b1 := Blk.new (w.alloc (.cells #[.int .i64 n] 3)) 85 #[.func (.func F) #[] caps]
  have b2 := Blk.new ((w.alloc (.cells #[.int .i64 n] 3)).alloc (.cells #[.func (.func F) #[] caps] 85)) 28 #[.slice none 0 0]
  have b3 := Blk.new (((w.alloc (.cells #[.int .i64 n] 3)).alloc (.cells #[.func (.func F) #[] caps] 85)).alloc (.cells #[.slice none 0 0] 28)) 2 #[.int .i64 0]
  have b4 := Blk.new ((((w.alloc (.cells #[.int .i64 n] 3)).alloc (.cells #[.func (.func F) #[] caps] 85)).alloc (.cells #[.slice none 0 0] 28)).alloc (.cells #[.int .i64 0] 2)) 4 #[.bool false]
  simp only [size_alloc', ← hS] at b1 b2 b3 b4
  rw [← hS] at b0
  have hz1 : W1.heap.size = S + 1 + 1 + 1 + 1 + 1 := by rw [hW1, hS]; simp only [size_alloc']
  have hb1 : Below S w W1 := by
    rw [hW1, hS]
    refine (((((Below.refl _ w).alloc (Nat.le_refl _) _).alloc ?_ _).alloc ?_ _).alloc ?_ _).alloc ?_ _ <;> simp only [size_alloc'] <;> omega
  have hk0 : Blk W1 S 3 #[.int .i64 n] := by rw [hW1]; exact (((b0.alloc _).alloc _).alloc _).alloc _
  have hk1 : Blk W1 (S + 1) 85 #[.func (.func F) #[] caps] := by rw [hW1]; exact ((b1.alloc _).alloc _).alloc _
  have hbs : BestSt S (S + 12) n none W1 := by rw [hW1]; exact ⟨(b2.alloc _).alloc _, b3.alloc _, b4⟩
  rw [← hW1, ← hS]
  rw [← hS] at HOF
  have HS := Lib.hid hS
  have hwS : w.heap.size ≤ S := by omega
  have hSw : S ≤ w.heap.size := by omega
  have HK0 := Lib.hid hk0
  clear b0 b1 b2 b3 b4 hW1 hS
  refine wpIn_iter1 (p := 12) (q := 9) 9 72 #[.pointer (some ⟨S, 0, none⟩)] (fun _ : List Nat => .slice (some ⟨S + 7 + 2, 0, none⟩) n n) _ (OrdAt (S + 7)) (OrdKP (S + 7)) (OrdSt (S + 7)) (permsF n n []) rfl (enters_of Try.func72 (by kernel_rfl) rfl)
    (orders_seq n (S + 7) S hn (by omega)) (fun V hV hs => ⟨by omega, hk0.below hV hk0.lt⟩) (fun A B k hh hk h1 h2 => hh.block k hk (by simp; omega))
    (fun x W o hl h => ⟨by simpa using h.1, fun h0 => by
      obtain ⟨g, off, e, hg, hc⟩ := h.2 h0
      have e' := e
      injection e' with e'
      injection e' with e'
      refine ⟨g, off, e, hg, fun i a ha j u hu => ?_⟩
      have := hc i a ha j u hu
      unfold World.cell? at this ⊢
      rw [World.putObj_heap_other (show g ≠ W1.heap.size + 1 by omega)]
      exact this⟩)
    (fun W o hl => ⟨by simp, fun k h1 h2 => World.putObj_heap_other (show k ≠ W1.heap.size + 1 by omega)⟩)
    (fun h k => ⟨Nat.le_trans h.1 k.1, fun z h1 h2 => (k.2 z h1 h2).trans (h.2 z h1 h2)⟩)
    (fun pre W => Below S w W ∧ Blk W (S + 1) 85 #[.func (.func F) #[] caps] ∧ BestSt S (S + 12) n (bestF wt pre) W) (fun _ _ _ => False)
    (fun pre X Y row h hg hr => ⟨h.1.grown hg (Nat.le_trans hSw h.1.size) (fun g e => by have := (hr g e).1; omega), blk_kept h.2.1 hg (fun r e => (hr r e).2), h.2.2.kept hg (fun r e => (hr r e).2)⟩) (fun _ _ _ _ _ h _ _ => h)
    (fun pre A B h hh => ⟨h.1.trans (hh.to (Nat.le_trans hSw h.1.size) (by first | (simp; done) | (simp; omega))), Blk.held hh h.2.1 (by first | (simp; done) | (simp; omega)), h.2.2.held hh (by first | (simp; done) | (simp; omega)) (by first | (simp; done) | (simp; omega)) (by first | (simp; done) | (simp; omega)) (by first | (simp; done) | (simp; omega))⟩) (fun _ _ _ _ h _ => h) ⟨hb1, hk1, hbs⟩ ?assign ?body ?done (fun _ _ _ _ _ _ h _ => h.elim)
  case assign =>
    intro m l x W K hK
    simp only [List.setIfInBounds_toArray, List.set_cons_succ, List.set_cons_zero] at hK ⊢
    gi_wp2_with fail
    exact hK
  case body =>
    rintro m l pre x W ⟨hb, hk1, hbs⟩ hat hpx
    have hmem : x ∈ permsF n n [] := by
      obtain ⟨z, hz⟩ := hpx
      rw [← hz]; simp
    obtain ⟨hxl, hxb⟩ := perms_ok n [] (by simp) (by simp) x hmem
    have hatz := hat.1
    have HCF := Lib.hid (HOF.out x (some ⟨S + 7 + 2, 0, none⟩) n W hxl hxb hb (hat.2.more (by omega)))
    have HEX := Lib.hid hat.2
    have HXL : Hid ((intsOf x).length = n) := Lib.hid (by rw [intsOf, List.length_map, hxl])
    have HSN : Hid (bestF wt (pre ++ [x]) = bestStep wt (bestF wt pre) x) := Lib.hid (bestF_snoc wt pre x)
    have c1 := hk1.cell 0
    have HB := Lib.hid hb
    have HK1 := Lib.hid hk1
    have hsW := hk1.lt
    clear hpx hmem hxl hxb hat hb hk1
    simp only [List.setIfInBounds_toArray, List.set_cons_succ, List.set_cons_zero]
    obtain ⟨o, ho⟩ : ∃ o, o = bestF wt pre := ⟨_, rfl⟩
    rw [← ho] at hbs HSN
    clear ho
    have fin : ∀ (a : Act) (W3 : World) (A3 : Option Addr) (cap3 : Nat), Held [] W W3 → Own W3 (S + 12) 3 1 icell A3 cap3 (intsOf x) → bestStep wt o x = some (x, wt x) → BestSt S (S + 12) n o W3 →
        ownPostG W1.heap.size (OrdKP (S + 7)) (fun pre W => Below S w W ∧ Blk W (S + 1) 85 #[.func (.func F) #[] caps] ∧ BestSt S (S + 12) n (bestF wt pre) W) (fun _ _ _ => False) (pre ++ [x]) W .normal a (((W3.setCell ⟨S + 1 + 1, 0, none⟩ (.slice A3 n cap3)).setCell ⟨S + 1 + 1 + 1, 0, none⟩ (.int .i64 (wt x))).setCell ⟨S + 1 + 1 + 1 + 1, 0, none⟩ (.bool true)) := by
      intro a W3 A3 cap3 hh3 ho3 hst hb3
      obtain ⟨W4, hW4⟩ : ∃ W4, W4 = (((W3.setCell ⟨S + 1 + 1, 0, none⟩ (.slice A3 n cap3)).setCell ⟨S + 1 + 1 + 1, 0, none⟩ (.int .i64 (wt x))).setCell ⟨S + 1 + 1 + 1 + 1, 0, none⟩ (.bool true)) := ⟨_, rfl⟩
      rw [← hW4]
      have hh4 : Held [S + 1 + 1, S + 1 + 1 + 1, S + 1 + 1 + 1 + 1] W W4 := by
        rw [hW4]
        exact (((hh3.mono (ex' := [S + 1 + 1, S + 1 + 1 + 1, S + 1 + 1 + 1 + 1]) (by simp)).setCell (p := ⟨S + 1 + 1, 0, none⟩) (by simp) _).setCell (p := ⟨S + 1 + 1 + 1, 0, none⟩) (by simp) _).setCell (p := ⟨S + 1 + 1 + 1 + 1, 0, none⟩) (by simp) _
      have hcells : ∀ k ∈ [S + 1 + 1, S + 1 + 1 + 1, S + 1 + 1 + 1 + 1], ∀ ob : Obj, W.heap[k]? = some ob → ob.isCells = true := by
        have e3 : ∀ k, k < W.heap.size → W3.heap[k]? = W.heap[k]? := fun k hk => hh3.block k hk (by simp)
        intro k hk ob hob
        have hlt := lt_of_block hob
        rw [← e3 k hlt] at hob
        cases o with
        | none =>
          simp at hk
          rcases hk with rfl | rfl | rfl
          · exact hb3.1.isCells ob hob
          · exact hb3.2.1.isCells ob hob
          · exact hb3.2.2.isCells ob hob
        | some p =>
          obtain ⟨q, y⟩ := p
          obtain ⟨⟨A, cap, ha, _⟩, hb, hc⟩ := hb3
          simp at hk
          rcases hk with rfl | rfl | rfl
          · exact ha.isCells ob hob
          · exact hb.isCells ob hob
          · exact hc.isCells ob hob
      have hnew : BestSt S (S + 12) n (some (x, wt x)) W4 := by
        have hx3 : ∃ v0 v1 v2, Blk W3 (S + 1 + 1) 28 #[v0] ∧ Blk W3 (S + 1 + 1 + 1) 2 #[v1] ∧ Blk W3 (S + 1 + 1 + 1 + 1) 4 #[v2] := by
          cases o with
          | none => exact ⟨_, _, _, hb3.1, hb3.2.1, hb3.2.2⟩
          | some p =>
            obtain ⟨q, y⟩ := p
            obtain ⟨⟨A, cap, ha, _⟩, hb, hc⟩ := hb3
            exact ⟨_, _, _, ha, hb, hc⟩
        obtain ⟨v0, v1, v2, k0, k1, k2⟩ := hx3
        rw [hW4]
        refine ⟨⟨A3, cap3, ((k0.put 0 _).far (p := ⟨S + 1 + 1 + 1, 0, none⟩) (by show S + 1 + 1 ≠ S + 1 + 1 + 1; omega) _).far (p := ⟨S + 1 + 1 + 1 + 1, 0, none⟩) (by show S + 1 + 1 ≠ S + 1 + 1 + 1 + 1; omega) _, ((ho3.low (p := ⟨S + 1 + 1, 0, none⟩) (by show S + 1 + 1 < S + 12; omega) _).low (p := ⟨S + 1 + 1 + 1, 0, none⟩) (by show S + 1 + 1 + 1 < S + 12; omega) _).low (p := ⟨S + 1 + 1 + 1 + 1, 0, none⟩) (by show S + 1 + 1 + 1 + 1 < S + 12; omega) _⟩, ?_, ?_⟩
        · exact ((k1.far (p := ⟨S + 1 + 1, 0, none⟩) (by show S + 1 + 1 + 1 ≠ S + 1 + 1; omega) _).put 0 _).far (p := ⟨S + 1 + 1 + 1 + 1, 0, none⟩) (by show S + 1 + 1 + 1 ≠ S + 1 + 1 + 1 + 1; omega) _
        · exact ((k2.far (p := ⟨S + 1 + 1, 0, none⟩) (by show S + 1 + 1 + 1 + 1 ≠ S + 1 + 1; omega) _).far (p := ⟨S + 1 + 1 + 1, 0, none⟩) (by show S + 1 + 1 + 1 + 1 ≠ S + 1 + 1 + 1; omega) _).put 0 _
      refine ⟨KeepsFrom.held hh4 hcells, ⟨hh4.size, fun k h1 h2 => hh4.block k (by omega) (by simp; omega)⟩, HB.out.trans (hh4.to (Nat.le_trans hSw HB.out.size) (by simp; omega)), Blk.held hh4 HK1.out (by simp), ?_⟩
      rw [HSN.out, hst]
      exact hnew
    have HFIN := Lib.hid fin
    clear fin
    cases o with
    | none =>
      have d2 := hbs.2.2.cell 0
      have HBS := Lib.hid hbs
      clear hbs
      gi_wp2_with fail
      refine round_callI (HCF.out.mono ?_)
      clear HCF
      rintro e W2 ⟨rfl, hb2⟩
      have HB2 := Lib.hid hb2
      have hh2 : Held [] W W2 := (Held.refl [] W).below hb2 (Nat.le_refl _)
      have hbs2 := HBS.out.held hh2 (by simp) (by simp) (by simp) (by simp)
      have HBS2 := Lib.hid hbs2
      have HEX2 := Lib.hid (HEX.out.below (hb2.mono (by omega)))
      have HH2 := Lib.hid hh2
      have hz2 := hb2.size
      have d2 := hbs2.2.2.cell 0
      clear hb2 hh2 hbs2
      have HCL := Lib.hid (Clone_ints (some ⟨S + 7 + 2, 0, none⟩) n n (intsOf x) W2 HXL.out (by omega) (HEX2.out.more (by omega)))
      gi_wp2_with fail
      refine round_callI (HCL.out.mono ?_)
      clear HCL
      rintro e W3 ⟨A3, cap3, rfl, hb3, ho3⟩
      have hh3 : Held [] W W3 := HH2.out.below hb3 (Nat.le_refl _)
      have hbs3 := HBS2.out.held ((Held.refl [] W2).below hb3 (Nat.le_refl _)) (by simp) (by simp) (by simp) (by simp)
      have HFN := Lib.hid (fun a => HFIN.out a W3 A3 cap3 hh3 (ho3.weaken (by omega)) rfl hbs3)
      have e0 := hbs3.1.cell 0
      have e1 := hbs3.2.1.cell 0
      have e2 := hbs3.2.2.cell 0
      have f0 := hbs3.1.frozen 0
      have f1 := hbs3.2.1.frozen 0
      have f2 := hbs3.2.2.frozen 0
      have HE3 := Lib.hid hbs3
      clear hh3 ho3 hb3 hbs3
      gi_wp2_with fail
      exact HFN.out _
    | some p =>
      obtain ⟨q, y⟩ := p
      have HBS := Lib.hid hbs
      clear hbs
      gi_wp2_with fail
      refine round_callI (HCF.out.mono ?_)
      clear HCF
      rintro e W2 ⟨rfl, hb2⟩
      have HB2 := Lib.hid hb2
      have hh2 : Held [] W W2 := (Held.refl [] W).below hb2 (Nat.le_refl _)
      have hbs2 := HBS.out.held hh2 (by simp) (by simp) (by simp) (by simp)
      have HBS2 := Lib.hid hbs2
      have HEX2 := Lib.hid (HEX.out.below (hb2.mono (by omega)))
      have HH2 := Lib.hid hh2
      have hz2 := hb2.size
      obtain ⟨⟨A, cap, ha, ho⟩, hx, hf⟩ := hbs2
      have d1 := hx.cell 0
      have d2 := hf.cell 0
      clear hb2 hh2 ha ho hx hf
      obtain ⟨wx, hwx⟩ : ∃ z, z = wt x := ⟨_, rfl⟩
      rw [← hwx] at HFIN ⊢
      have HWX := Lib.hid hwx
      clear hwx
      by_cases hlt : wx < y
      · have hd : decide (wx < y) = true := decide_eq_true hlt
        have hst : bestStep wt (some (q, y)) x = some (x, wx) := by unfold bestStep; rw [← HWX.out]; exact if_pos hlt
        have HSTP := Lib.hid hst
        clear hst
        have HCL := Lib.hid (Clone_ints (some ⟨S + 7 + 2, 0, none⟩) n n (intsOf x) W2 HXL.out (by omega) (HEX2.out.more (by omega)))
        gi_wp2_with fail
        refine round_callI (HCL.out.mono ?_)
        clear HCL
        rintro e W3 ⟨A3, cap3, rfl, hb3, ho3⟩
        have hh3 : Held [] W W3 := HH2.out.below hb3 (Nat.le_refl _)
        have hbs3 := HBS2.out.held ((Held.refl [] W2).below hb3 (Nat.le_refl _)) (by simp) (by simp) (by simp) (by simp)
        have HFN := Lib.hid (fun a => HFIN.out a W3 A3 cap3 hh3 (ho3.weaken (by omega)) HSTP.out hbs3)
        obtain ⟨⟨A, cap, ha, ho⟩, hx, hf⟩ := hbs3
        have e0 := ha.cell 0
        have e1 := hx.cell 0
        have e2 := hf.cell 0
        have f0 := ha.frozen 0
        have f1 := hx.frozen 0
        have f2 := hf.frozen 0
        clear ha ho hx hf
        clear hh3 ho3 hb3
        gi_wp2_with fail
        exact HFN.out _
      · have hd : decide (wx < y) = false := decide_eq_false hlt
        have hst : bestStep wt (some (q, y)) x = some (q, y) := by unfold bestStep; rw [← HWX.out]; exact if_neg hlt
        have HSTP := Lib.hid hst
        clear hst
        gi_wp2_with fail
        refine ⟨KeepsFrom.below HB2.out (Nat.le_refl _), ⟨HB2.out.size, fun k h1 h2 => HH2.out.block k (by omega) (by simp)⟩, HB.out.trans (HH2.out.to (Nat.le_trans hSw HB.out.size) (by simp)), Blk.held HH2.out HK1.out (by simp), ?_⟩
        rw [HSN.out, HSTP.out]
        exact HBS2.out
  case done =>
    rintro D W hD ⟨hb, hk1, hbs⟩ hdef
    have hne := perms_ne (n := n) n [] (by simp) (by simp) (by simp)
    obtain ⟨q, y, hqy⟩ : ∃ q y, bestF wt (permsF n n []) = some (q, y) := by
      cases ho : bestF wt (permsF n n []) with
      | some p => exact ⟨p.1, p.2, rfl⟩
      | none => exact absurd (bestF_none _ ho) hne
    rw [hqy] at hbs
    obtain ⟨⟨A, cap, ha, ho⟩, hx, _⟩ := hbs
    have HMK : Hid (Marks S [{ target := .collected D, args := #[] }] W) := Lib.hid ⟨[D], rfl, by simp, fun E hE => by
      rw [List.mem_singleton] at hE
      subst hE
      exact ⟨by omega, hdef⟩⟩
    have HQY := Lib.hid hqy
    have HO := Lib.hid ho
    have HB := Lib.hid hb
    have c0 := ha.cell 0
    have c1 := hx.cell 0
    clear hb hk1 hx ha ho hdef hqy hne
    gi_wp2_with fail
    refine region_wide 99 4 (fun w' => w' = W.drew) (by kernel_rfl) rfl ?_
    refine anyC_reads (by kernel_rfl) [0, 1, 2, 3] ?opl ?ohl 0 _ _ _ (by kernel_rfl) ?okk
    case ohl => (simp only [List.filterMap_cons, List.filterMap_nil, List.getElem?_toArray, List.getElem?_cons_zero, List.getElem?_cons_succ]; try rfl)
    repeat (
      refine readC_step (v := ?_) rfl (fun w' hw' => ?_) ?_
      rotate_left
      focus (subst hw'; go_simp; try with_reducible rfl)
      go_simp)
    refine readC_nil ?_
    refine anyC_end (by kernel_rfl) (.inr rfl) ?_
    have HMD : Hid (Marks S [{ target := .collected D, args := #[] }] W.drew) := HMK
    gi_wp2_with fail
    refine bodyPostM_ret HMD.out fun w' hw' => ⟨.tuple #[.slice A n cap, .int .i64 y], by simp [results, Try.results45, go_sem], ?_⟩
    rw [← HS.out]
    exact ⟨A, cap, q, y, rfl, (HB.out.drew).trans hw'.1, HQY.out, (HO.out.drew.shut hw').els⟩
