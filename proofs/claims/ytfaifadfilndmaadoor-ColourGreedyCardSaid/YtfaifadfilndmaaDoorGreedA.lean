/- Colouring in an order: the program's function. Conditions: the edges and the order read as lists; the table. -/
import Derived.Test.YtfaifadfilndmaaDoorGreedP
import Derived.Test.YtfaifadfilndmaaDoorHueC
import Derived.Test.YtfaifadfilndmaaDoorMaps
import Derived.Test.YtfaifadfilndmaaDoorKeys
namespace Go.Proofs.YtfaifadfilndmaaDoor
open Go.RowKit Go.Shelf
attribute [local go_sem] Oper.semAt_some

/-- What the map holds: the nodes that have been seen. -/
def SeenN (N : Nat) (L : List (Int × Value)) (pre : List Int) : Prop := (∀ i, i ∈ L.map Prod.fst ↔ i ∈ pre ∧ 0 ≤ i ∧ i < N) ∧ ∀ p ∈ L, ∃ x, p.2 = .int .i64 x
theorem mem_putK {L : List (Int × Value)} {a i : Int} {v : Value} : i ∈ (putK L a v).map Prod.fst ↔ i = a ∨ i ∈ L.map Prod.fst := by
  induction L with
  | nil => simp [putK]
  | cons p L ih =>
    unfold putK
    split
    · rename_i h; subst h; simp
    · rw [List.map_cons, List.mem_cons, ih, List.map_cons, List.mem_cons]
      constructor
      · rintro (h | h | h)
        · exact .inr (.inl h)
        · exact .inl h
        · exact .inr (.inr h)
      · rintro (h | h | h)
        · exact .inr (.inl h)
        · exact .inl h
        · exact .inr (.inr h)
theorem mem_putK_val {L : List (Int × Value)} {a : Int} {v : Value} {p : Int × Value} (h : p ∈ putK L a v) : p.2 = v ∨ p ∈ L := by
  induction L with
  | nil => simp [putK] at h; rw [h]; exact .inl rfl
  | cons q L ih =>
    unfold putK at h
    split at h
    · rcases List.mem_cons.1 h with rfl | h
      · exact .inl rfl
      · exact .inr (List.mem_cons_of_mem _ h)
    · rcases List.mem_cons.1 h with rfl | h
      · exact .inr List.mem_cons_self
      · rcases ih h with h | h
        · exact .inl h
        · exact .inr (List.mem_cons_of_mem _ h)
theorem getK_mem {L : List (Int × Value)} {a : Int} {v : Value} (h : getK L a = some v) : ∃ p ∈ L, p.2 = v := by
  induction L with
  | nil => cases h
  | cons q L ih =>
    unfold getK at h
    split at h
    · injection h with h; exact ⟨q, List.mem_cons_self, h⟩
    · obtain ⟨p, hp, he⟩ := ih h
      exact ⟨p, List.mem_cons_of_mem _ hp, he⟩
theorem SeenN.get {N : Nat} {L : List (Int × Value)} {pre : List Int} (h : SeenN N L pre) (a : Int) : ∃ x, (getK L a).getD (.int .i64 0) = .int .i64 x := by
  cases hg : getK L a with
  | none => exact ⟨0, rfl⟩
  | some v =>
    obtain ⟨p, hp, rfl⟩ := getK_mem hg
    obtain ⟨x, hx⟩ := h.2 p hp
    exact ⟨x, hx⟩
theorem SeenN.put {N : Nat} {L : List (Int × Value)} {pre : List Int} (h : SeenN N L pre) {a : Int} (h0 : 0 ≤ a) (h1 : a < N) (x : Int) : SeenN N (putK L a (.int .i64 x)) (pre ++ [a]) := by
  refine ⟨fun i => ?_, fun p hp => ?_⟩
  · rw [mem_putK, h.1, List.mem_append, List.mem_singleton]
    constructor
    · rintro (rfl | ⟨h2, h3⟩)
      · exact ⟨.inr rfl, h0, h1⟩
      · exact ⟨.inl h2, h3⟩
    · rintro ⟨h2 | h2, h3⟩
      · exact .inr ⟨h2, h3⟩
      · exact .inl h2
  · rcases mem_putK_val hp with h2 | h2
    · exact ⟨x, h2⟩
    · exact h.2 p h2
theorem SeenN.skip {N : Nat} {L : List (Int × Value)} {pre : List Int} (h : SeenN N L pre) {a : Int} (h0 : ¬ (0 ≤ a ∧ a < N)) : SeenN N L (pre ++ [a]) := by
  refine ⟨fun i => ?_, h.2⟩
  rw [h.1, List.mem_append, List.mem_singleton]
  constructor
  · rintro ⟨h2, h3⟩; exact ⟨.inl h2, h3⟩
  · rintro ⟨h2 | h2, h3⟩
    · exact ⟨h2, h3⟩
    · rw [h2] at h3; exact absurd h3 h0
theorem MapB.keys_nodup {κ : Type} [DecidableEq κ] {w : World} {r : Nat} {kv : κ → Value} {L : List (κ × Value)} (h : MapB w r kv L) : (L.map Prod.fst).Nodup := by
  obtain ⟨_, _, _, hr⟩ := h
  exact hr.2.2.2
theorem run_len_mapB {P : Program} {κ : Type} [DecidableEq κ] {w : World} {r : Nat} {kv : κ → Value} {L : List (κ × Value)} (h : MapB w r kv L) (t ty : TypeId) (ht : P.underlying t = some (.map (P.mapKeyOf t) (P.mapElemOf t))) :
    (Builtin.len_ #[t] ty #[.map (some r)]).run P w = .ok (goInt L.length) w := by
  obtain ⟨es, cl, hb, hr⟩ := h
  rw [run_len_map w t ty r es cl ht hb]
  have := congrArg List.length hr.1
  simp at this
  rw [this]
theorem ints_back {N : Nat} {o : List Int} (h : EachP N o) : ∃ od : List Nat, o = intsOf od ∧ od.Nodup ∧ ∀ i ∈ od, i < N := by
  refine ⟨o.map Int.toNat, ?_, ?_, ?_⟩
  · unfold intsOf
    rw [List.map_map]
    conv => lhs; rw [← List.map_id o]
    exact List.map_congr_left fun i hi => by have := (h.2 i hi).1; simp; omega
  · refine List.pairwise_map.2 (List.Pairwise.imp_of_mem (fun {a b} ha hb hab => ?_) h.1)
    have h1 := (h.2 a ha).1
    have h2 := (h.2 b hb).1
    omega
  · intro i hi
    obtain ⟨x, hx, rfl⟩ := List.mem_map.1 hi
    have := h.2 x hx
    omega
def GreedOk (q : Nat) (o : List Int) : Prop := EachP q o ∧ o.length = q

set_option maxRecDepth 100000 in
set_option maxHeartbeats 4000000 in
theorem colour_Greedy (N : Int) (A : Option Addr) (n c : Nat) (l : List Ed) (O : Option Addr) (ko co : Nat) (o : List Int) (w : World) (hl : l.length = n) (hn : n ≤ maxLen) (hr : Els w w.heap.size 3 Ed.cells A l) (hol : o.length = ko) (hko : ko ≤ maxLen) (ho : Els w w.heap.size 1 icell O o) (htab : TabOk w) :
    Calls Tryd.prog 29 #[.agg #[.int .i64 N, .slice A n c], .slice O ko co] w fun e w' => ∃ (R : Option Addr) (m cap : Nat) (er : Int), e = .returned (.tuple #[.slice R m cap, .int .i64 er]) ∧ Below w.heap.size w w' ∧
      (graphCheck N l ≠ 0 → er = graphCheck N l ∧ m = 0) ∧ (graphCheck N l = 0 → ∃ q : Nat, N = q ∧ (¬ GreedOk q o → er = 2 ∧ m = 0) ∧ (GreedOk q o → er = 0 ∧ m = q ∧ ∃ od : List Nat, o = intsOf od ∧ od.Nodup ∧ (∀ i ∈ od, i < q) ∧ Els w' w'.heap.size 1 icell R (prgG l q od q))) := by
  have h0w : 0 < w.heap.size := Nat.lt_of_le_of_lt (Nat.zero_le _) htab.1
  unfold maxLen at hko
  have hb0 := (Below.refl w.heap.size w).alloc (Nat.le_refl _) (.cells #[.int .i64 N, .slice A n c] 24)
  have hB0 := Blk.new w 24 #[.int .i64 N, .slice A n c]
  have HW := Lib.hid (graph_Check N A n c l (w.alloc (.cells #[.int .i64 N, .slice A n c] 24)) hl hn ((hr.alloc (Nat.le_refl _) _).more (by rw [size_alloc']; omega)))
  have HL := Lib.hid hl
  have HR := Lib.hid hr
  have HT := Lib.hid htab
  have HOL := Lib.hid hol
  have HO := Lib.hid ho
  have HB0 := Lib.hid hb0
  have HK0 := Lib.hid hB0
  have hmm := @run_makeMap Tryd.prog
  have c0 := hB0.cell 0
  have c1 := hB0.cell 1
  clear hr hb0 hB0 hl htab ho hol
  go_enter Tryd.func29, Tryd.ntmps29
  go_wp2_with fail
  refine HW.out.mono ?_
  clear HW
  rintro e v1 ⟨rfl, hb1⟩
  have hk1 := HK0.out.below hb1 (by rw [size_alloc']; omega)
  have hb1' := HB0.out.trans (hb1.mono (by rw [size_alloc']; omega))
  have hz1 := hb1'.size
  have HB1 := Lib.hid hb1'
  have HK1 := Lib.hid hk1
  clear c0 c1 hb1 hb1' hk1
  by_cases h0 : graphCheck N l = 0
  · obtain ⟨m, rfl, hg⟩ := graph_good h0
    have HZ := Lib.hid h0
    have HG := Lib.hid hg
    have hm := hg.n10
    obtain ⟨S, hS⟩ : ∃ S, S = w.heap.size := ⟨_, rfl⟩
    have HS := Lib.hid hS
    rw [← hS] at hz1 h0w ⊢
    have HB1' : Hid (Below S w v1) := by rw [hS]; exact HB1
    have HK1' : Hid (Blk v1 S 24 #[.int .i64 m, .slice A n c]) := by rw [hS]; exact HK1
    have HR' : Hid (Els w S 3 Ed.cells A l) := by rw [hS]; exact HR
    have HO' : Hid (Els w S 1 icell O o) := by rw [hS]; exact HO
    rw [h0]
    clear h0 hg hS HB1 HK1 HR HB0 HK0 HO
    go_wp2_with fail
    obtain ⟨M, hM⟩ : ∃ M, M = v1.heap.size := ⟨_, rfl⟩
    rw [← hM]
    have hMS : S < M := by rw [hM]; exact HK1'.out.lt
    obtain ⟨v2, hv2⟩ : ∃ v2, v2 = v1.alloc (.map #[] 0) := ⟨_, rfl⟩
    have HB2 : Hid (Below S w v2) := Lib.hid (by rw [hv2]; exact HB1'.out.alloc hz1 _)
    have HK2 : Hid (Blk v2 S 24 #[.int .i64 m, .slice A n c]) := Lib.hid (by rw [hv2]; exact HK1'.out.alloc _)
    have HM2 : Hid (MapB v2 M (fun i : Int => .int .i64 i) []) := Lib.hid (by rw [hv2, hM]; exact MapB.made v1)
    rw [← hv2]
    clear hv2 hM HB1' HK1'
    go_loopw [21] (fun v wr => ∃ (j : Nat) (L : List (Int × Value)), j ≤ ko ∧ v = .int .i64 j ∧ Below S w wr ∧ Blk wr S 24 #[.int .i64 m, .slice A n c] ∧ MapB wr M (fun i : Int => .int .i64 i) L ∧ SeenN m L (o.take j)) (fun v _ => ko - (intOf v).toNat)
    case atStart => exact ⟨0, [], by omega, rfl, HB2.out, HK2.out, HM2.out, ⟨fun i => by simp, fun p hp => by cases hp⟩⟩
    case round =>
      clear HB2 HK2 HM2
      rename World => wr
      obtain ⟨j, L, hj, rfl, hb, hkb, hmp, hseen⟩ := hrel
      have hz : S ≤ wr.heap.size := by have := hb.size; rw [← HS.out] at this; exact this
      have d0 := hkb.cell 0
      have d1 := hkb.cell 1
      have HB := Lib.hid hb
      have HK := Lib.hid hkb
      have HMP := Lib.hid hmp
      have HSEEN := Lib.hid hseen
      by_cases hlt : j < ko
      · have hjl : j < o.length := by rw [HOL.out]; exact hlt
        obtain ⟨b2, off2, rfl, _, g2⟩ := (HO'.out.below hb).at1 hjl
        obtain ⟨i, hi⟩ : ∃ i, i = o[j] := ⟨_, rfl⟩
        rw [← hi] at g2
        have HTK : Hid (o.take (j + 1) = o.take j ++ [i]) := Lib.hid (by rw [List.take_succ_eq_append_getElem hjl, hi])
        obtain ⟨x, hx⟩ := hseen.get i
        have hlook := run_look (P := Tryd.prog) (keyL_int Tryd.underlying3) Tryd.underlying96 (z := .int .i64 0) (fun u => by kernel_rfl) hmp i false
        rw [hx] at hlook
        simp only [Bool.false_eq_true, if_false] at hlook
        obtain ⟨w3, hput, hmp3, hgrow3, hsz3⟩ := run_put (P := Tryd.prog) (keyL_int Tryd.underlying3) Tryd.underlying96 hmp i (.int .i64 (wrap64 (x + 1)))
        have HB3 : Hid (Below S w w3) := Lib.hid (hb.grown hgrow3 hz (fun k hk => by cases hk; omega))
        have HK3 : Hid (Blk w3 S 24 #[.int .i64 m, .slice A n c]) := Lib.hid (hkb.grown hgrow3 (by simp; omega))
        have HMP3 := Lib.hid hmp3
        clear hi hx hb hkb hmp hseen hmp3 hgrow3 hsz3
        by_cases hi0 : 0 ≤ i
        · by_cases him : i < (m : Int)
          · go_wp2_with fail
            go_roundw
            case rel => exact ⟨j + 1, _, by omega, by go_num, HB3.out, HK3.out, HMP3.out, by rw [HTK.out]; exact HSEEN.out.put hi0 him _⟩
            case measure => simp [intOf]; omega
          · clear hput hlook
            go_wp2_with fail
            go_roundw
            case rel => exact ⟨j + 1, L, by omega, by go_num, HB.out, HK.out, HMP.out, by rw [HTK.out]; exact HSEEN.out.skip (fun h => him h.2)⟩
            case measure => simp [intOf]; omega
        · clear hput hlook
          go_wp2_with fail
          go_roundw
          case rel => exact ⟨j + 1, L, by omega, by go_num, HB.out, HK.out, HMP.out, by rw [HTK.out]; exact HSEEN.out.skip (fun h => hi0 h.1)⟩
          case measure => simp [intOf]; omega
      · have hjk : j = ko := by omega
        have hcount := each_count (N := m) (o := o) hmp.keys_nodup (by
          have := hseen.1
          rw [hjk, ← HOL.out, List.take_length] at this
          exact this)
        rw [HOL.out, List.length_map] at hcount
        have hlen := run_len_mapB (P := Tryd.prog) hmp 96 3 (by kernel_rfl)
        have HCNT := Lib.hid hcount
        clear hjk hcount hb hkb hmp hseen
        by_cases hA : ko = m
        · have hA1 : ((ko : Int) != (m : Int)) = false := by simp; omega
          have hA2 : decide (ko = m) = true := decide_eq_true hA
          by_cases hBm : L.length = m
          · have hB1 : ((L.length : Int) != (m : Int)) = false := by simp; omega
            have HGO : Hid (GreedOk m o) := Lib.hid (by
              have := HCNT.out.1 ⟨hA, hBm⟩
              exact ⟨this.1, by rw [HOL.out]; exact hA⟩)
            have HHA := Lib.hid hA
            have HF := Lib.hid (col_fresh m A n c l wr HL.out HG.out ((HR'.out.below HB.out).more hz))
            obtain ⟨od, hod, hodn, hodm⟩ := ints_back HGO.out.1
            have HOD := Lib.hid hod
            have HODN := Lib.hid hodn
            have HODM := Lib.hid hodm
            have hodl : od.length = m := by
              have h := HGO.out.2
              rw [hod, intsOf, List.length_map] at h
              exact h
            have HODL := Lib.hid hodl
            have hSlt := HK.out.lt
            clear hA hBm hod hodn hodm hodl
            go_wp2_with fail
            refine HF.out.mono ?_
            clear HF
            rintro e w2 ⟨Q, g, B, A1, rfl, hb2, hwB, hBQ, hq2, hn2, ho2⟩
            have hSB : S < B := Nat.lt_of_lt_of_le hSlt hwB
            have HB2 := Lib.hid (HB.out.trans (hb2.mono hz))
            have HK2 := Lib.hid (HK.out.below hb2 hSlt)
            have HQ2 := Lib.hid hq2
            have HN2 := Lib.hid hn2
            have HO2 := Lib.hid ho2
            clear hb2 hq2 hn2 ho2 d0 d1 hwB hlen hA1 hA2 hB1 hlt hj HMP HSEEN HB HK hz hSlt HCNT
            go_wp2_with fail
            go_loopw [54] (fun v wr => ∃ j : Nat, j ≤ m ∧ v = .int .i64 j ∧ Below S w wr ∧ Blk wr S 24 #[.int .i64 m, .slice A n c] ∧ Blk wr Q 101 #[.slice A1 m m, .slice (some ⟨g, 0, none⟩) m m] ∧ Els wr B 1 wcell A1 (nearL m l) ∧ Own wr B 3 1 icell (some ⟨g, 0, none⟩) m (prgG l m od j)) (fun v _ => m - (intOf v).toNat)
            case atStart => exact ⟨0, by omega, rfl, HB2.out, HK2.out, HQ2.out, HN2.out, HO2.out⟩
            case round =>
              clear HB2 HK2 HQ2 HN2 HO2
              rename World => wq
              obtain ⟨j, hj, rfl, hb, hkb, hq, hn, ho⟩ := hrel
              have hz : S ≤ wq.heap.size := by have := hb.size; rw [← HS.out] at this; exact this
              have hQl := hq.lt
              have hgl := own_lt ho
              have hgQ : g ≠ Q := own_blk_ne ho hq (by decide)
              have hkm : ko = m := HHA.out
              by_cases hlt : j < m
              · have hjl : j < o.length := by rw [HOL.out]; omega
                have hjd : j < od.length := by rw [HODL.out]; exact hlt
                obtain ⟨b2, off2, rfl, _, g2⟩ := (HO'.out.below hb).at1 hjl
                obtain ⟨i, hi⟩ : ∃ i, i = od.getD j 0 := ⟨_, rfl⟩
                have him : i < m := by rw [hi, getD_at od j hjd]; exact HODM.out _ (List.getElem_mem hjd)
                have hoi : o[j] = (i : Int) := by
                  have : o[j]? = (intsOf od)[j]? := by rw [HOD.out]
                  rw [List.getElem?_eq_getElem hjl, intsOf, List.getElem?_map, List.getElem?_eq_getElem hjd] at this
                  rw [hi, getD_at od j hjd]
                  simpa using this
                rw [hoi] at g2
                obtain ⟨hne, htz⟩ := tz_least HG.out od HODM.out hjd hlt
                rw [← hi] at hne htz
                have HMAY := Lib.hid (col_may m hm A1 m m Q g wq.heap.size (nearL m l) (prgG l m od j) i m wq.drew (nearL_len m l) (prgG_length l m od j) him (fun j' hj' => adj_in HG.out (by rw [← near_bit HG.out him]; exact mem_bitsL.1 hj')) hq.drew (hn.more (by omega)) ho.els (Nat.le_refl _) ((HT.out.below hb h0w).block (Nat.le_refl _) rfl))
                have HPG : Hid ((prgG l m od j).set i ((tz (mayW (prgG l m od j) (lw (nearL m l) i) m) : Nat) : Int) = prgG l m od (j + 1)) := Lib.hid (by rw [htz, hi]; rfl)
                obtain ⟨Y, hY⟩ : ∃ Y, Y = mayW (prgG l m od j) (lw (nearL m l) i) m := ⟨_, rfl⟩
                rw [← hY] at hne HMAY HPG
                have hil : i < (prgG l m od j).length := by rw [prgG_length]; exact him
                have HKW := Lib.hid (fun (v : World) (hv : Below wq.heap.size wq v) => (⟨(hkb.below hv (by omega)).cell 0, (hq.below hv hQl).cell 1⟩ : v.cell? ⟨S, 0, none⟩ = _ ∧ v.cell? ⟨Q, 1, none⟩ = _))
                have hdr : Below wq.heap.size wq wq.drew := (Below.refl _ wq).drew
                have HDR := Lib.hid hdr
                have HNE := Lib.hid hne
                have HB := Lib.hid hb
                have HK := Lib.hid hkb
                have HQ := Lib.hid hq
                have HN := Lib.hid hn
                have HO := Lib.hid ho
                have hjk : (j : Int) < (ko : Int) := by omega
                have hjk2 : j < ko := by omega
                have hi0 : (0 : Int) ≤ (i : Int) := by omega
                have him' : (i : Int) < (m : Int) := by omega
                clear hb hkb hq hn ho hi hoi hne htz hY hdr hkm hjd hjl
                go_wp2_with fail
                refine region_plain 12 13 (fun w'' => Below wq.heap.size wq w'') (by kernel_rfl) rfl ?_
                refine anyC_reads (by kernel_rfl) [0, 1, 2, 3, 4, 5, 6, 7, 8] ?opg ?ohg 4 _ _ _ (by kernel_rfl) ?okg
                case ohg => (simp only [List.filterMap_cons, List.filterMap_nil, List.getElem?_toArray, List.getElem?_cons_zero, List.getElem?_cons_succ]; try rfl)
                repeat (
                  refine readC_step (v := ?_) rfl (fun w' hw' => ?_) ?_
                  rotate_left
                  focus (obtain ⟨p0, p1⟩ := HKW.out w' hw'; go_simp; try with_reducible rfl)
                  go_simp)
                refine readC_nil ?_
                refine anyC_one (i := 9) (by kernel_rfl) rfl rfl (.inr HDR.out) ?_
                go_simp
                refine HMAY.out.mono ?_
                clear HMAY
                rintro e w3 ⟨rfl, hb3⟩
                have hb3' : Below wq.heap.size wq w3 := HDR.out.trans hb3
                have HB3 := Lib.hid hb3'
                have HT3 : Hid (TabOk w3) := Lib.hid (HT.out.below (HB.out.trans (hb3'.mono hz)) h0w)
                have hs3 : wq.heap.size ≤ w3.heap.size := hb3'.size
                clear hb3 hb3'
                go_simp
                refine anyC_one (i := 10) (by kernel_rfl) rfl rfl (.inr HB3.out) ?_
                go_simp
                refine (TrailingZeros32_ne Y w3 HNE.out HT3.out).mono ?_
                rintro e w4 ⟨rfl, rfl⟩
                have ho3 := HO.out.below HB3.out (Nat.le_refl _)
                obtain ⟨g', hge, _, _, z6, z7⟩ := ho3.cell1 hil
                obtain rfl : g = g' := by injection hge with h; injection h
                have HO3 : Hid (Own (w3.setCell ⟨g, i, none⟩ (.int .i64 ((tz Y : Nat) : Int))) B 3 1 icell (some ⟨g, 0, none⟩) m (prgG l m od (j + 1))) := Lib.hid (by
                  have := ho3.put1 (x := ((tz Y : Nat) : Int)) hil
                  rw [HPG.out] at this
                  exact this)
                clear ho3 hge
                go_simp
                refine anyC_one (i := 11) (by kernel_rfl) rfl rfl (.inr HB3.out) ?_
                go_simp
                refine anyC_one (i := 12) (by kernel_rfl) rfl rfl (.inr HB3.out) ?_
                go_simp
                refine anyC_end (by kernel_rfl) (.inl (by kernel_rfl)) ?_
                go_wp2_with fail
                go_roundw
                case rel => exact ⟨j + 1, by omega, by go_num, (HB.out.trans (HB3.out.mono hz)).setCell (p := ⟨g, i, none⟩) (show S ≤ g by omega) _, (HK.out.below HB3.out (by omega)).far (p := ⟨g, i, none⟩) (show S ≠ g by omega) _, (HQ.out.below HB3.out hQl).far (p := ⟨g, i, none⟩) (show Q ≠ g from fun h => hgQ h.symm) _, (HN.out.below (HB3.out.mono (by omega))).below ((Below.refl B w3).setCell (p := ⟨g, i, none⟩) (show B ≤ g by omega) _), HO3.out⟩
                case measure => simp [intOf]; omega
              · have hjm : j = m := by omega
                have hjk : ¬ ((j : Int) < (ko : Int)) := by omega
                have hjk2 : ¬ j < ko := by omega
                have x1 := hq.cell 1
                have HB := Lib.hid hb
                have HE := Lib.hid ho.els
                rw [hjm] at HE
                clear hb hkb hq hn ho hkm hjm
                go_wp2_with fail
                refine bodyPost_ret (v := .tuple #[.slice (some ⟨g, 0, none⟩) m m, .int .i64 0]) (by simp [results, Tryd.results29, go_sem]) rfl ?_
                exact ⟨some ⟨g, 0, none⟩, m, m, 0, rfl, by rw [← HS.out]; exact HB.out, fun h => absurd HZ.out h, fun _ => ⟨m, rfl, fun h => absurd HGO.out h, fun _ => ⟨rfl, rfl, od, HOD.out, HODN.out, HODM.out, HE.out⟩⟩⟩
          · have hB1 : ((L.length : Int) != (m : Int)) = true := by simp; omega
            have HGO : Hid (¬ GreedOk m o) := Lib.hid (fun h => by
              have := HCNT.out.2 ⟨h.1, hA⟩
              exact hBm this.2)
            clear hA hBm
            go_wp2_with fail
            refine bodyPost_ret (v := .tuple #[.slice none 0 0, .int .i64 2]) (by simp [results, Tryd.results29, go_sem]) rfl ?_
            exact ⟨none, 0, 0, 2, rfl, by rw [← HS.out]; exact HB.out, fun h => absurd HZ.out h, fun _ => ⟨m, rfl, fun _ => ⟨rfl, rfl⟩, fun h => absurd h HGO.out⟩⟩
        · have hA1 : ((ko : Int) != (m : Int)) = true := by simp; omega
          have hA2 : decide (ko = m) = false := decide_eq_false hA
          have HGO : Hid (¬ GreedOk m o) := Lib.hid (fun h => hA (by rw [← HOL.out]; exact h.2))
          clear hA
          go_wp2_with fail
          refine bodyPost_ret (v := .tuple #[.slice none 0 0, .int .i64 2]) (by simp [results, Tryd.results29, go_sem]) rfl ?_
          exact ⟨none, 0, 0, 2, rfl, by rw [← HS.out]; exact HB.out, fun h => absurd HZ.out h, fun _ => ⟨m, rfl, fun _ => ⟨rfl, rfl⟩, fun h => absurd h HGO.out⟩⟩
  · have h1 : (graphCheck N l != 0) = true := by simpa using h0
    have H0 := Lib.hid h0
    obtain ⟨x, hx⟩ : ∃ x, x = graphCheck N l := ⟨_, rfl⟩
    rw [← hx] at h1 ⊢
    have HX := Lib.hid hx
    clear h0 hx hmm
    go_wp2_with fail
    refine bodyPost_ret (v := .tuple #[.slice none 0 0, .int .i64 x]) (by simp [results, Tryd.results29, go_sem]) rfl ?_
    exact ⟨none, 0, 0, x, rfl, HB1.out, fun _ => ⟨HX.out, rfl⟩, fun h => absurd h H0.out⟩
end Go.Proofs.YtfaifadfilndmaaDoor
