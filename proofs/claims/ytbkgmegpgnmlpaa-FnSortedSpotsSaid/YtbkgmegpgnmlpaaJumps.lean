/- Jumps of a list of spots. -/
import Derived.Test.YtbkgmegpgnmlpaaFar
import Derived.Deep.RegionHeld3
namespace Go.Proofs.Ytbkgmegpgnmlpaa
open Go.RowKit

def gp (L : List (Int × Int)) (j : Nat) : Int × Int := L.getD j (0, 0)
def jmp (p q : Int × Int) : Int := far0 p.1 p.2 q.1 q.2
def jl (L : List (Int × Int)) (k : Nat) : List Int := (List.range k).map fun j => jmp (gp L j) (gp L (j + 1))
theorem jl_succ (L : List (Int × Int)) (k : Nat) : jl L (k + 1) = jl L k ++ [jmp (gp L k) (gp L (k + 1))] := by simp [jl, List.range_succ]
def SmallL (L : List (Int × Int)) : Prop := ∀ p ∈ L, Small p.1 ∧ Small p.2

set_option maxRecDepth 100000 in
set_option maxHeartbeats 1000000 in
theorem jumps_any (g cap : Nat) (L : List (Int × Int)) (w : World) (hL : SpAt w g L) (hn : L.length ≤ 1000) (hs : SmallL L) :
    Calls Try.prog 49 #[.slice (some ⟨g, 0, none⟩) L.length cap] w fun e w' => ∃ g' cap', e = .returned (.slice (some ⟨g', 0, none⟩) (L.length - 1) cap') ∧
      w'.ownsRow w.heap.size 2 1 (.slice (some ⟨g', 0, none⟩) (L.length - 1) cap') (L.length - 1) (ints (jl L (L.length - 1))) ∧ Below w.heap.size w w' := by
  obtain ⟨n, hnL⟩ : ∃ n, L.length = n := ⟨_, rfl⟩
  rw [hnL] at hn ⊢
  go_enter Try.func49, Try.ntmps49
  go_wp2_with fail
  have hown0 := World.ownsRow_lit (e := 2) (size := 1) w #[] 0 (Nat.le_refl _) (by decide) rfl
  go_loopw [3, 4] (fun v i wr => ∃ k gg c : Nat, k + 1 ≤ max n 1 ∧ i = .int .i64 ((k : Int) + 1) ∧ v = .slice (some ⟨gg, 0, none⟩) k c ∧ wr.ownsRow w.heap.size 2 1 (.slice (some ⟨gg, 0, none⟩) k c) k (ints (jl L k)) ∧ Below w.heap.size w wr) (fun _ i _ => n + 1 - (intOf i).toNat)
  case atStart => exact ⟨0, _, 0, by omega, rfl, rfl, hown0, Ext.more (Ext.refl _) _⟩
  case round =>
    obtain ⟨k, gg, c, hk, rfl, rfl, hown, hb⟩ := hrel
    by_cases hlt : k + 1 < n
    · have hS := hL.ext hb
      have c1 := (hS.2 k (by omega)).1
      have c2 := (hS.2 k (by omega)).2
      have c3 := (hS.2 (k + 1) (by omega)).1
      have c4 := (hS.2 (k + 1) (by omega)).2
      have hg := hS.1
      obtain ⟨s1, s2⟩ := hs L[k] (List.getElem_mem _)
      obtain ⟨s3, s4⟩ := hs L[k + 1] (List.getElem_mem _)
      have J : Hid (jl L (k + 1) = jl L k ++ [far0 L[k].1 L[k].2 L[k + 1].1 L[k + 1].2]) := by
        show jl L (k + 1) = _
        rw [jl_succ]; simp [jmp, gp, hlt, hnL, show k < n from by omega]
      generalize L[k] = p at *
      generalize L[k + 1] = q at *
      obtain ⟨ax, ay⟩ := p
      obtain ⟨bx, by_⟩ := q
      simp only at c1 c2 c3 c4 s1 s2 s3 s4
      have F := Lib.hid (fun W => far_city ax ay bx by_ W s1 s2 s3 s4)
      have i0 : (0 : Int) ≤ (k : Int) := by omega
      have i1 : (k : Int) < (n : Int) := by omega
      have i2 : (k : Int) + 1 < (n : Int) := by omega
      have i3 : (0 : Int) ≤ (k : Int) + 1 := by omega
      have i4 : IntKind.i64.wrap (k : Int) = k := IntWalk.i64_in _ (by omega)
      clear s1 s2 s3 s4 hS
      have hgg := (hown.lt gg rfl).1
      have hgw := hL.1
      have hne : g ≠ gg := by omega
      go_wp2_with fail
      go_region_held3 (fun w' => w'.cell? ⟨g, k * 2, none⟩ = some (.int .i64 ax) ∧ w'.cell? ⟨g, k * 2 + 1, none⟩ = some (.int .i64 ay) ∧ w'.cell? ⟨g, (k + 1) * 2, none⟩ = some (.int .i64 bx) ∧ w'.cell? ⟨g, (k + 1) * 2 + 1, none⟩ = some (.int .i64 by_))
        (first | (go_split_ands; refine ⟨?_, ?_, ?_, ?_⟩ <;> exact (hb'.cell (p := ⟨_, _, none⟩) (by simpa using hg)).trans (by assumption)) | (go_split_ands; refine ⟨?_, ?_, ?_, ?_⟩ <;> exact (hgrow2.cell_far ⟨_, _, none⟩ (by have := hb'.size; simp at *; omega) (by simp [Value.ownBlock]; omega)).trans (by assumption)) | go_keep)
        (first
          | (go_at_call 56; refine (F.out _).mono ?_; rintro e w' ⟨rfl, hb'⟩)
          | (refine step_app intT (by rfl) _ _ (by rfl) w.heap.size (.slice (some ⟨gg, 0, none⟩) k c) k (ints (jl L k)) (by rfl) ((own_ext hb' hown).alloc _) w'.heap.size #[.int .i64 (far0 ax ay bx by_)] (by rfl) (heap_alloc_new w' _) rfl (by simp [Value.oneCell']) (by omega) (by have := hb'.size; have := hb.size; simp at *; omega) ?_; intro g2 cap2 w2 hown2 hgrow2 hat2 hlt2))
      have hown3 : w2.ownsRow w.heap.size 2 1 (.slice (some ⟨g2, 0, none⟩) (k + 1) cap2) (k + 1) (ints (jl L (k + 1))) := by
        rw [J.out]; simpa [ints] using hown2
      have hb3 : Below w.heap.size w w2 :=
        (Ext.more (hb.drew.trans (hb'.mono hb.size)) _).grown hgrow2 (by have := hb'.size; have := hb.size; simp at *; omega) (by intro x hx; simp [Value.ownBlock] at hx; omega)
      clear hgrow2 hat2 hown2 hb' F c1 c2 c3 c4 hown hb
      go_wp2_with fail
      go_roundw
      case rel => exact ⟨k + 1, g2, cap2, by omega, by go_num, rfl, hown3, hb3⟩
      case measure => simp [intOf]; omega
    · obtain rfl : k = n - 1 := by omega
      go_wp2_with fail
      go_ret
      exact ⟨gg, c, rfl, hown, hb⟩
end Go.Proofs.Ytbkgmegpgnmlpaa
