/- The most that can go is the smallest cut: sets as words. Conditions: at most ten nodes. -/
import Derived.Test.YtjkfogkpacmdlaaFeeLeast42
import Derived.Test.YtjkfogkpacmdlaaFeeLeast18
import Derived.Test.YtjkfogkpacmdlaaFeeLeast13
namespace Go.Proofs.Ytjkfogkpacmdlaa
open Go.RowKit

theorem capP_cut {N : Nat} (x : BitVec 32) (p : Int → Bool) : ∀ {l : List Arc}, InN N l → (∀ i : Nat, i < N → p i = bitB x i) → capP p l = cutSum x l
  | [], _, _ => rfl
  | a :: l, hin, hp => by
    have h1 := capP_cut x p (fun b hb => hin b (List.mem_cons_of_mem _ hb)) hp
    obtain ⟨h2, h3, h4, h5, _⟩ := hin a List.mem_cons_self
    have e1 := hp a.f.toNat (by omega)
    have e2 := hp a.t.toNat (by omega)
    rw [show ((a.f.toNat : Nat) : Int) = a.f by omega] at e1
    rw [show ((a.t.toNat : Nat) : Int) = a.t by omega] at e2
    unfold capP cutSum cutAt
    rw [h1, e1, e2]
theorem most_cut {N : Nat} {l : List Arc} {gs : List Int} {s t : Nat} {v : Int} {b0 : Nat} (hN : N ≤ 10) (hin : InN N l) (hs : s < N) (ht : t < N) (hf : FlowV N l gs s t v) {p : Int → Bool} (ps : p s = true) (pt : p t = false) (hp : capP p l = v) (hb : BestCut l s t (· < 2 ^ N) b0) : cutSum (nw b0) l = v := by
  obtain ⟨h1, h2, h3⟩ := hb
  have hw := hf.weak hin hs (p := fun i => bitB (nw b0) i) (by unfold cutOk at h2; simp at h2; exact h2.1) (by unfold cutOk at h2; simp at h2; exact h2.2)
  rw [capP_cut (N := N) (nw b0) _ hin (fun _ _ => rfl)] at hw
  have hk0 := mkS_lt (fun i : Nat => p i) N
  have hbit : ∀ i : Nat, i < N → p i = bitB (nw (mkS (fun i : Nat => p i) N)) i := fun i hi => by
    rw [bitB_nat]
    unfold nw
    rw [BitVec.getLsbD_ofNat, mkS_bit, decide_eq_true (show i < 32 by omega), decide_eq_true hi]
    rfl
  have e := capP_cut (nw (mkS (fun i : Nat => p i) N)) p hin hbit
  have hok : cutOk s t (mkS (fun i : Nat => p i) N) = true := by
    unfold cutOk
    rw [← hbit s hs, ← hbit t ht, ps, pt]
    rfl
  have := h3 _ hk0 hok
  rw [← e, hp] at this
  omega
end Go.Proofs.Ytjkfogkpacmdlaa
