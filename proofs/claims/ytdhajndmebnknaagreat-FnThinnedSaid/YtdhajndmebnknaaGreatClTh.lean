/- The law FnThinned answers true whatever the bytes: thinned and shrunk pictures lie inside, have as many components and holes, the same tree, and doing it again changes nothing; a simple pixel that is made white changes neither number.
   Conditions: none: for every input that the row speaks of, the call returns true, without a data race, and each argument reads behind it as before. -/
import Derived.Test.YtdhajndmebnknaaGreatRow
import Derived.Test.YtdhajndmebnknaaGreatOpen
import Derived.Test.YtdhajndmebnknaaGreatLawTh
namespace Go.Proofs.YtdhajndmebnknaaGreat.fnThinned
open Go.ChangeShapes Go.WideShapes Go.ChangeAt Go.RowKit

set_option maxRecDepth 100000 in
theorem core (W : World) (base : Nat) {H : Type} {enc : TypeId × Value → H} (args : Array Value) (ds : List (DataW H)) (p : List MemPlace)
    (hval : ∀ (j : Nat) t v, Tryz.f3.params[j]? = some t → args[j]? = some v → Value.okWide Tryz.prog W .any base t v) (hA : DataW.TrodAll enc Tryz.prog W 0 (fun _ => true) true Tryz.f3.params.toList args.toList ds p)
    (hlt : ∀ x ∈ p, x.block < W.heap.size) : Calls Tryz.prog 3 args W fun e w' => e = .returned (.bool true) ∧ Below W.heap.size W w' := by
  rw [Tryz.params3] at hA hval
  obtain ⟨v0, vs0, d0, ds0, p0, q0, hargs, rfl, rfl, h0, r0⟩ := trodAll_cons hA
  obtain ⟨v1, vs1, d1, ds1, p1, q1, rfl, rfl, rfl, h1, r1⟩ := trodAll_cons r0
  obtain ⟨rfl, rfl, rfl⟩ := trodAll_nil r1
  obtain rfl : args = #[v0, v1] := by cases args; simp_all
  obtain ⟨A0, n0, c0, l0, rfl, hb0, hm0⟩ := open_bytes (hval 0 22 v0 rfl rfl) h0
  obtain ⟨A1, n1, c1, l1, rfl, hb1, hm1⟩ := open_bytes (hval 1 22 v1 rfl rfl) h1
  exact walkThinned W A0 n0 c0 l0 hb0 hm0 A1 n1 c1 l1 hb1 hm1

set_option maxRecDepth 100000 in
theorem lifted (os : Os) (started : os.Started) (H : Type) (enc : TypeId × Value → H) :
    ReturnsInHanded {} Tryz.checked os 3 .any (Rows.fnThinnedSpec.pre6 enc Tryz.prog Tryz.f3 Rows.fnThinnedRow.domain false) (Rows.fnThinnedSpec.post enc Tryz.prog Tryz.f3 false true false false) :=
  law_lifted_any (C := Tryz.checked) Tryz.own Tryz.laidOut Tryz.underlying4 os started Tryz.func3 (by kernel_rfl) rfl rfl (by kernel_rfl)
    (fun ds h => by
      match ds, h with
      | [x0, x1], _ => rfl)
    (ChangeSpec.witness6 (enc := enc) (C := Tryz.checked) false ⟨#[], #[.slice none 0 0, .slice none 0 0], []⟩ 8 (by kernel_rfl) (by kernel_rfl) (by kernel_rfl) (by kernel_rfl))
    (fun W base args ds p hval hA hlt => core W base args ds p hval hA hlt)

theorem over : Rows.fnThinnedRow.holds Tryz.pinned (OpenSpec.ofChange Rows.fnThinnedSpec) :=
  OpenClaim.holds_of_wide 3 Tryz.f3 rfl rfl rfl rfl rfl rfl rfl ⟨rfl, rfl, rfl, rfl, rfl⟩ rfl rfl rfl rfl rfl (by kernel_rfl) Tryz.func3 (by kernel_rfl)
    (of_decide_eq_true (by kernel_rfl)) (by unfold Func.isWrapper; rw [if_neg (of_decide_eq_false (by kernel_rfl))]; exact ⟨rfl, rfl⟩)
    (fun os started H enc _ => lifted os started H enc)

theorem proved : Rows.FnThinnedSaid :=
  over
#print axioms proved
end Go.Proofs.YtdhajndmebnknaaGreat.fnThinned
