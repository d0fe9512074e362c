/- The law FnExactWayAlong answers true at every curve, order and list of spots: both texts return the same length of the way.
   Conditions: none: for every input that the row speaks of, the call returns true, without a data race, and each argument reads behind it as before. -/
import Derived.Test.YtbkgmegpgnmlpaaRow
import Derived.Test.YtbkgmegpgnmlpaaSpO
import Derived.Test.YtbkgmegpgnmlpaaWalkWal
namespace Go.Proofs.Ytbkgmegpgnmlpaa.fnExactWayAlong
open Go.ChangeShapes Go.WideShapes Go.ChangeAt Go.RowKit

set_option maxRecDepth 100000 in
theorem core (W : World) (base : Nat) {H : Type} {enc : TypeId × Value → H} (args : Array Value) (ds : List (DataW H)) (p : List MemPlace)
    (hval : ∀ (j : Nat) t v, Try.f10.params[j]? = some t → args[j]? = some v → Value.okWide Try.prog W .any base t v) (hA : DataW.TrodAll enc Try.prog W 0 (fun _ => true) true Try.f10.params.toList args.toList ds p)
    (hlt : ∀ x ∈ p, x.block < W.heap.size) : Calls Try.prog 10 args W fun e w' => e = .returned (.bool true) ∧ Below W.heap.size W w' := by
  rw [Try.params10] at hA hval
  obtain ⟨v0, vs0, d0, ds0, p0, q0, hargs, rfl, rfl, h0, r0⟩ := trodAll_cons hA
  obtain ⟨v1, vs1, d1, ds1, p1, q1, rfl, rfl, rfl, h1, r1⟩ := trodAll_cons r0
  obtain ⟨v2, vs2, d2, ds2, p2, q2, rfl, rfl, rfl, h2, r2⟩ := trodAll_cons r1
  obtain ⟨rfl, rfl, rfl⟩ := trodAll_nil r2
  obtain rfl : args = #[v0, v1, v2] := by cases args; simp_all
  obtain ⟨a0, rfl, rfl, rfl, w0⟩ := open_int Try.underlying2 (hval 0 2 v0 rfl rfl) h0
  obtain ⟨a1, rfl, rfl, rfl, w1⟩ := open_int Try.underlying2 (hval 1 2 v1 rfl rfl) h1
  obtain ⟨A2, c2, l2, rfl, hb2, hm2⟩ := open_spots (hval 2 48 v2 rfl rfl) h2
  exact walkWayAlong W a0 a1 A2 c2 l2 hb2 hm2

set_option maxRecDepth 100000 in
theorem lifted (os : Os) (started : os.Started) (H : Type) (enc : TypeId × Value → H) :
    ReturnsInHanded {} Try.checked os 10 .any (Rows.fnExactWayAlongSpec.pre6 enc Try.prog Try.f10 Rows.fnExactWayAlongRow.domain false) (Rows.fnExactWayAlongSpec.post enc Try.prog Try.f10 false true false false) :=
  law_lifted_any (C := Try.checked) Try.own Try.laidOut Try.underlying4 os started Try.func10 (by kernel_rfl) rfl rfl (by kernel_rfl)
    (fun ds h => by
      match ds, h with
      | [x0, x1, x2], _ => rfl)
    (ChangeSpec.witness6 (enc := enc) (C := Try.checked) false ⟨#[], #[.int .i64 0, .int .i64 0, .slice none 0 0], []⟩ 8 (by kernel_rfl) (by kernel_rfl) (by kernel_rfl) (by kernel_rfl))
    (fun W base args ds p hval hA hlt => core W base args ds p hval hA hlt)

theorem over : Rows.fnExactWayAlongRow.holds Try.pinned (OpenSpec.ofChange Rows.fnExactWayAlongSpec) :=
  OpenClaim.holds_of_wide 10 Try.f10 rfl rfl rfl rfl rfl rfl rfl ⟨rfl, rfl, rfl, rfl, rfl⟩ rfl rfl rfl rfl rfl (by kernel_rfl) Try.func10 (by kernel_rfl)
    (of_decide_eq_true (by kernel_rfl)) (by unfold Func.isWrapper; rw [if_neg (of_decide_eq_false (by kernel_rfl))]; exact ⟨rfl, rfl⟩)
    (fun os started H enc _ => lifted os started H enc)

theorem proved : Rows.FnExactWayAlongSaid :=
  over
#print axioms proved
end Go.Proofs.Ytbkgmegpgnmlpaa.fnExactWayAlong
