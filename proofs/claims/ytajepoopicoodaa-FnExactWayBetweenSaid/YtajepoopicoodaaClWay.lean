/- The law FnExactWayBetween answers true at every grey picture and two spots: both texts of WayBetween return one text and one bool.
   Conditions: none: for every input that the row speaks of, the call returns true, without a data race, and each argument reads behind it as before. -/
import Derived.Test.YtajepoopicoodaaRow
import Derived.Test.YtajepoopicoodaaOpenS
import Derived.Test.YtajepoopicoodaaOpenG
import Derived.Test.YtajepoopicoodaaWalkWay
namespace Go.Proofs.Ytajepoopicoodaa.fnExactWayBetween
open Go.ChangeShapes Go.WideShapes Go.ChangeAt Go.RowKit

set_option maxRecDepth 100000 in
theorem core (W : World) (base : Nat) {H : Type} {enc : TypeId × Value → H} (args : Array Value) (ds : List (DataW H)) (p : List MemPlace)
    (hval : ∀ (j : Nat) t v, Try.f9.params[j]? = some t → args[j]? = some v → Value.okWide Try.prog W .any base t v) (hA : DataW.TrodAll enc Try.prog W 0 (fun _ => true) true Try.f9.params.toList args.toList ds p)
    (hlt : ∀ x ∈ p, x.block < W.heap.size) : Calls Try.prog 9 args W fun e w' => e = .returned (.bool true) ∧ Below W.heap.size W w' := by
  rw [Try.params9] at hA hval
  obtain ⟨v0, vs0, d0, ds0, p0, q0, hargs, rfl, rfl, h0, r0⟩ := trodAll_cons hA
  obtain ⟨v1, vs1, d1, ds1, p1, q1, rfl, rfl, rfl, h1, r1⟩ := trodAll_cons r0
  obtain ⟨v2, vs2, d2, ds2, p2, q2, rfl, rfl, rfl, h2, r2⟩ := trodAll_cons r1
  obtain ⟨rfl, rfl, rfl⟩ := trodAll_nil r2
  obtain rfl : args = #[v0, v1, v2] := by cases args; simp_all
  obtain ⟨A0, c0, l0, rfl, hb0, hm0, hz0⟩ := open_grey (hval 0 24 v0 rfl rfl) h0
  obtain ⟨a1, b1, rfl⟩ := open_spot (hval 1 26 v1 rfl rfl) h1
  obtain ⟨a2, b2, rfl⟩ := open_spot (hval 2 26 v2 rfl rfl) h2
  exact walkWayBetween W A0 c0 l0 hb0 hm0 hz0 a1 b1 a2 b2

set_option maxRecDepth 100000 in
theorem lifted (os : Os) (started : os.Started) (H : Type) (enc : TypeId × Value → H) :
    ReturnsInHanded {} Try.checked os 9 .any (Rows.fnExactWayBetweenSpec.pre6 enc Try.prog Try.f9 Rows.fnExactWayBetweenRow.domain false) (Rows.fnExactWayBetweenSpec.post enc Try.prog Try.f9 false true false false) :=
  law_lifted_any (C := Try.checked) Try.own Try.laidOut Try.underlying4 os started Try.func9 (by kernel_rfl) rfl rfl (by kernel_rfl)
    (fun ds h => by
      match ds, h with
      | [x0, x1, x2], _ => rfl)
    (ChangeSpec.witness6 (enc := enc) (C := Try.checked) false ⟨#[], #[.agg #[.slice none 0 0], .agg #[.int .i64 0, .int .i64 0], .agg #[.int .i64 0, .int .i64 0]], []⟩ 8 (by kernel_rfl) (by kernel_rfl) (by kernel_rfl) (by kernel_rfl))
    (fun W base args ds p hval hA hlt => core W base args ds p hval hA hlt)

theorem over : Rows.fnExactWayBetweenRow.holds Try.pinned (OpenSpec.ofChange Rows.fnExactWayBetweenSpec) :=
  OpenClaim.holds_of_wide 9 Try.f9 rfl rfl rfl rfl rfl rfl rfl ⟨rfl, rfl, rfl, rfl, rfl⟩ rfl rfl rfl rfl rfl (by kernel_rfl) Try.func9 (by kernel_rfl)
    (of_decide_eq_true (by kernel_rfl)) (by unfold Func.isWrapper; rw [if_neg (of_decide_eq_false (by kernel_rfl))]; exact ⟨rfl, rfl⟩)
    (fun os started H enc _ => lifted os started H enc)

theorem proved : Rows.FnExactWayBetweenSaid :=
  over
#print axioms proved
end Go.Proofs.Ytajepoopicoodaa.fnExactWayBetween
