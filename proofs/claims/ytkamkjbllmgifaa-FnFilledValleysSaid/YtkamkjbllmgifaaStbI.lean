/- Insertion sort of spots, at any comparing function that makes memory at most. -/
import Derived.Test.YtkamkjbllmgifaaStb
import Derived.Test.YtkamkjbllmgifaaHQ
import Derived.Deep.CutRange
import Derived.Deep.DeepCutAuto
namespace Go.Proofs.Ytkamkjbllmgifaa
open Go.RowKit

/-- What is asked of the comparing function. -/
structure CmpOk (g : Nat) (K : FuncId) (caps : Array Value) (Inv : World → Prop) (El : Int × Int → Prop) (cm : Int × Int → Int × Int → Int) (key : Int × Int → Int) : Prop where
  ent : ∀ (args : Array Value) (w : World), (callFunc K args).run Try.prog w = .ok (.enter K args) w
  keep : ∀ V V', Inv V → Only g V V' → Inv V'
  lt : ∀ x y, El x → El y → (cm x y < 0 ↔ key x < key y)
  call : ∀ V x y, Inv V → El x → El y → Calls Try.prog K (#[.agg #[.int .i64 x.1, .int .i64 x.2], .agg #[.int .i64 y.1, .int .i64 y.2]] ++ caps) V fun e' w' => e' = .returned (.int .i64 (cm x y)) ∧ Below V.heap.size V w'
theorem elMv {El : Int × Int → Prop} {a b n : Nat} {d e : Nat → Int × Int} (h : ∀ i, i < n → El (d i)) (k : Stb.Mv a b d e) (hb : b ≤ n) : ∀ i, i < n → El (e i) := by
  intro i hi
  by_cases c : a ≤ i ∧ i < b
  · obtain ⟨y, hy, ey⟩ := k.from c
    rw [ey]; exact h y (by omega)
  · rw [k.out c]; exact h i hi
set_option maxRecDepth 100000 in
set_option maxHeartbeats 1000000 in
theorem insertion_any {K : FuncId} {caps : Array Value} {Inv : World → Prop} {El : Int × Int → Prop} {cm : Int × Int → Int × Int → Int} {key pl : Int × Int → Int} (g n c : Nat) (d : Nat → Int × Int) (a b : Nat) (w : World) (ck : CmpOk g K caps Inv El cm key) (h : SpF w g n d) (hI : Inv w) (hE : ∀ i, i < n → El (d i)) (hA : Stb.Asc pl a b d) (h1 : a ≤ b) (h2 : b ≤ n) (hn : n ≤ 1000000) :
    Calls Try.prog 114 #[.slice (some ⟨g, 0, none⟩) n c, .int .i64 a, .int .i64 b, .func (.func K) #[] caps] w fun e' w' => e' = .returned (.tuple #[]) ∧ (∃ d', SpF w' g n d' ∧ Stb.Mv a b d d' ∧ Stb.Srt key pl a b d') ∧ Only g w w' := by
  have hK := ck.ent
  have CK := Lib.hid ck
  have HE := Lib.hid hE
  have HA := Lib.hid hA
  have w0 : IntKind.i64.wrap ((a : Int) + 1) = ((a + 1 : Nat) : Int) := by rw [IntWalk.i64_in _ (by omega)]; simp
  clear ck hE hA
  go_enter Try.func114, Try.ntmps114
  go_wp2_with fail
  go_loopw [8] (fun iv wr => ∃ (i : Nat) (e : Nat → Int × Int), iv = .int .i64 i ∧ a < i ∧ (i ≤ b ∨ i = a + 1) ∧ SpF wr g n e ∧ Only g w wr ∧ Hid (Stb.Mv a (min i b) d e ∧ Stb.Srt key pl a (min i b) e)) (fun iv _ => b - (intOf iv).toNat)
  case atStart => exact ⟨a + 1, d, by go_num, by omega, .inr rfl, h, Chg.refl _ _, Stb.Mv.refl _ _ _, Stb.Srt.one (by omega)⟩
  case round =>
    obtain ⟨i, e, rfl, hai, hib, hS, hC, hM⟩ := hrel
    clear h w0
    by_cases hlt : i < b
    · have ti : (i : Int) < b := by omega
      have wi : IntKind.i64.wrap ((i : Int) + 1) = ((i + 1 : Nat) : Int) := by rw [IntWalk.i64_in _ (by omega)]; simp
      have M1 := hM.out.1
      have S1 := hM.out.2
      rw [Nat.min_eq_left (by omega)] at M1 S1
      have PS : Hid (∀ x, a ≤ x → x < i → pl (e x) < pl (e i)) := fun x hx hx2 => by
        obtain ⟨y, hy, ey⟩ := M1.from (x := x) ⟨hx, hx2⟩
        rw [ey, M1.out (x := i) (by omega)]
        exact HA.out y i hy.1 hy.2 hlt
      have EL := Lib.hid (elMv HE.out M1 (by omega))
      have HM1 := Lib.hid M1
      have HS1 := Lib.hid S1
      clear hM M1 S1
      go_wp2_with fail
      go_loopw [9] (fun jv wr => ∃ j : Nat, jv = .int .i64 j ∧ a ≤ j ∧ j ≤ i ∧ SpF wr g n (Stb.ins e i j) ∧ Only g w wr ∧ Hid (∀ x, j ≤ x → x < i → key (e i) < key (e x))) (fun jv _ => (intOf jv).toNat)
      case atStart => exact ⟨i, rfl, by omega, Nat.le_refl _, by rw [Stb.ins_self]; exact hS, hC, fun x hx hx2 => by omega⟩
      case round =>
        obtain ⟨j, rfl, haj, hji, hSj, hCj, hP⟩ := hrel
        clear hS hC
        by_cases hja : a < j
        · have tj : (a : Int) < j := by omega
          obtain ⟨j', rfl⟩ : ∃ j', j = j' + 1 := ⟨j - 1, by omega⟩
          have td : decide ((a : Int) < (j' : Int) + 1) = true := by simp; omega
          have wj : IntKind.i64.wrap ((j' : Int) + 1 - 1) = (j' : Int) := by rw [IntWalk.i64_in _ (by omega)]; omega
          have wj0 : IntKind.i64.wrap (j' : Int) = (j' : Int) := by rw [IntWalk.i64_in _ (by omega)]
          obtain ⟨c1, c2⟩ := hSj.cell (j' + 1) (by omega)
          obtain ⟨c3, c4⟩ := hSj.cell j' (by omega)
          have e1 : Stb.ins e i (j' + 1) (j' + 1) = e i := by unfold Stb.ins; rw [if_neg (by omega), if_pos rfl]
          have e2 : Stb.ins e i (j' + 1) j' = e j' := by unfold Stb.ins; rw [if_pos (by omega)]
          rw [e1] at c1 c2
          rw [e2] at c3 c4
          have LT := CK.out.lt (e i) (e j') (EL.out i (by omega)) (EL.out j' (by omega))
          have CA := Lib.hid (fun V (hb : Below wr.heap.size wr V) => CK.out.call V (e i) (e j') (CK.out.keep w V hI (hCj.ext hb)) (EL.out i (by omega)) (EL.out j' (by omega)))
          have HSJ := Lib.hid hSj
          have HCJ := Lib.hid hCj
          have lg := hSj.lt
          have i0 : (0 : Int) ≤ ((j' + 1 : Nat) : Int) := by omega
          have i1 : ((j' + 1 : Nat) : Int) < (n : Int) := by omega
          have i2 : (0 : Int) ≤ (j' : Int) := by omega
          have i3 : (j' : Int) < (n : Int) := by omega
          clear hSj hCj e1 e2
          generalize hr : cm (e i) (e j') = r at *
          have HLT := Lib.hid LT
          clear LT hr
          generalize hx : e i = x at *
          generalize hy : e j' = y at *
          have HX := Lib.hid (And.intro hx hy)
          clear hx hy
          obtain ⟨x1, x2⟩ := x
          obtain ⟨y1, y2⟩ := y
          cases hd : decide (r < 0)
          · go_upto_region 4 with fail
            refine wp_region_held_quiet (fun U => Below wr.heap.size wr U) (by kernel_rfl) (by kernel_rfl) (Ext.refl _).drew ?_
            have ne : Nonempty (HeldW (fun U => Below wr.heap.size wr U)) := ⟨⟨wr, Ext.refl _⟩⟩
            have v1 : ∀ i : HeldW (fun U => Below wr.heap.size wr U), i.w.cell? ⟨g, (j' + 1) * 2, none⟩ = _ := fun i => (i.h.cell (p := ⟨g, (j' + 1) * 2, none⟩) lg).trans c1
            have v2 : ∀ i : HeldW (fun U => Below wr.heap.size wr U), i.w.cell? ⟨g, (j' + 1) * 2 + 1, none⟩ = _ := fun i => (i.h.cell (p := ⟨g, (j' + 1) * 2 + 1, none⟩) lg).trans c2
            have v3 : ∀ i : HeldW (fun U => Below wr.heap.size wr U), i.w.cell? ⟨g, j' * 2, none⟩ = _ := fun i => (i.h.cell (p := ⟨g, j' * 2, none⟩) lg).trans c3
            have v4 : ∀ i : HeldW (fun U => Below wr.heap.size wr U), i.w.cell? ⟨g, j' * 2 + 1, none⟩ = _ := fun i => (i.h.cell (p := ⟨g, j' * 2 + 1, none⟩) lg).trans c4
            repeat (go_big_quiet_step (exact Calls.above_of _ (CA.out _ (‹HeldW (fun U => Below wr.heap.size wr U)›).h)))
            refine wpQuiet_nil ?_
            intro _ hw'
            obtain ⟨⟨wz, hb2⟩, rfl⟩ := hw'
            clear ne v1 v2 v3 v4
            have HO := Lib.hid (And.intro (HSJ.out.ext hb2) (HCJ.out.ext hb2))
            have KX : Hid (key (y1, y2) ≤ key (x1, x2)) := by
              have : ¬ r < 0 := by simpa using hd
              rw [HLT.out] at this
              rw [Hid]; omega
            have FIN : Hid (Stb.Mv a (min (i + 1) b) d (Stb.ins e i (j' + 1)) ∧ Stb.Srt key pl a (min (i + 1) b) (Stb.ins e i (j' + 1))) := by
              rw [Hid, Nat.min_eq_left (by omega)]
              constructor
              · have m1 := Stb.ins_mv e (a := a) (b := i + 1) (i := i) (by omega) (i - (j' + 1)) (by omega)
                rw [show i - (i - (j' + 1)) = j' + 1 by omega] at m1
                exact (HM1.out.mono (Nat.le_refl _) (by omega)).trans m1
              · refine Stb.ins_srt HS1.out (fun x hx hx2 => by rw [HX.out.1]; exact PS.out x hx hx2) (by omega) (by omega) (fun x hx hx2 => by rw [HX.out.1]; exact hP.out x hx hx2) (fun x hx hx2 => ?_)
                rw [HX.out.1]
                by_cases ex : x = j'
                · rw [ex, HX.out.2]; exact KX.out
                · have := Stb.lx_key (HS1.out x j' hx (by omega) (by omega))
                  rw [HX.out.2] at this
                  exact Int.le_trans this KX.out
            clear HSJ HCJ c1 c2 c3 c4 hb2 hd CA HX KX HLT hP HM1 HS1 PS td
            go_wp2_with fail
            exact ⟨⟨i + 1, _, by go_num, by omega, .inl (by omega), HO.out.1, HO.out.2, FIN⟩, by simp [intOf]; omega⟩
          · go_upto_region 4 with fail
            refine wp_region_held_quiet (fun U => Below wr.heap.size wr U) (by kernel_rfl) (by kernel_rfl) (Ext.refl _).drew ?_
            have ne : Nonempty (HeldW (fun U => Below wr.heap.size wr U)) := ⟨⟨wr, Ext.refl _⟩⟩
            have v1 : ∀ i : HeldW (fun U => Below wr.heap.size wr U), i.w.cell? ⟨g, (j' + 1) * 2, none⟩ = _ := fun i => (i.h.cell (p := ⟨g, (j' + 1) * 2, none⟩) lg).trans c1
            have v2 : ∀ i : HeldW (fun U => Below wr.heap.size wr U), i.w.cell? ⟨g, (j' + 1) * 2 + 1, none⟩ = _ := fun i => (i.h.cell (p := ⟨g, (j' + 1) * 2 + 1, none⟩) lg).trans c2
            have v3 : ∀ i : HeldW (fun U => Below wr.heap.size wr U), i.w.cell? ⟨g, j' * 2, none⟩ = _ := fun i => (i.h.cell (p := ⟨g, j' * 2, none⟩) lg).trans c3
            have v4 : ∀ i : HeldW (fun U => Below wr.heap.size wr U), i.w.cell? ⟨g, j' * 2 + 1, none⟩ = _ := fun i => (i.h.cell (p := ⟨g, j' * 2 + 1, none⟩) lg).trans c4
            repeat (go_big_quiet_step (exact Calls.above_of _ (CA.out _ (‹HeldW (fun U => Below wr.heap.size wr U)›).h)))
            refine wpQuiet_nil ?_
            intro _ hw'
            obtain ⟨⟨wz, hb2⟩, rfl⟩ := hw'
            clear ne v1 v2 v3 v4
            have hS2 := HSJ.out.ext hb2
            obtain ⟨b1, b2⟩ := hS2.cell (j' + 1) (by omega)
            obtain ⟨b3, b4⟩ := hS2.cell j' (by omega)
            have q1 := (hb2.cell (p := ⟨g, (j' + 1) * 2, none⟩) lg).trans c1
            have q2 := (hb2.cell (p := ⟨g, (j' + 1) * 2 + 1, none⟩) lg).trans c2
            have q3 := (hb2.cell (p := ⟨g, j' * 2, none⟩) lg).trans c3
            have q4 := (hb2.cell (p := ⟨g, j' * 2 + 1, none⟩) lg).trans c4
            have f := hS2.free
            have SW := Lib.hid (hS2.swap (j' + 1) j' (by omega) (by omega) (by omega))
            rw [show Stb.swp (Stb.ins e i (j' + 1)) (j' + 1) j' = Stb.ins e i j' from Stb.ins_step e i (j' + 1) (by omega) hji] at SW
            have e1 : Stb.ins e i (j' + 1) (j' + 1) = (x1, x2) := by rw [← HX.out.1]; unfold Stb.ins; rw [if_neg (by omega), if_pos rfl]
            have e2 : Stb.ins e i (j' + 1) j' = (y1, y2) := by rw [← HX.out.2]; unfold Stb.ins; rw [if_pos (by omega)]
            rw [e1, e2] at SW
            have HC2 := Lib.hid (HCJ.out.ext hb2)
            have PN : Hid (∀ x, j' ≤ x → x < i → key (x1, x2) < key (e x)) := fun x hx hx2 => by
              by_cases ex : x = j'
              · rw [ex, HX.out.2]; exact HLT.out.1 (by simpa using hd)
              · exact hP.out x (by omega) hx2
            clear HSJ HCJ c1 c2 c3 c4 b1 b2 b3 b4 hb2 hd CA HX HLT hP hS2 e1 e2 td
            go_wp2_with fail
            go_region
            all_goals go_wp2_with fail
            all_goals exact ⟨⟨j', rfl, by omega, by omega, SW.out.draw, ((((HC2.out.store (p := ⟨g, (j' + 1) * 2, none⟩) rfl _).store (p := ⟨g, (j' + 1) * 2 + 1, none⟩) rfl _).store (p := ⟨g, j' * 2, none⟩) rfl _).store (p := ⟨g, j' * 2 + 1, none⟩) rfl _).drewN 1, PN⟩, by simp [intOf]⟩
        · obtain rfl : j = a := by omega
          have FIN : Hid (Stb.Mv j (min (i + 1) b) d (Stb.ins e i j) ∧ Stb.Srt key pl j (min (i + 1) b) (Stb.ins e i j)) := by
            rw [Hid, Nat.min_eq_left (by omega)]
            constructor
            · have m1 := Stb.ins_mv e (a := j) (b := i + 1) (i := i) (by omega) (i - j) (by omega)
              rw [show i - (i - j) = j by omega] at m1
              exact (HM1.out.mono (Nat.le_refl _) (by omega)).trans m1
            · exact Stb.ins_srt HS1.out PS.out (by omega) (by omega) hP.out (fun x hx hx2 => by omega)
          have HO := Lib.hid (And.intro hSj hCj)
          clear hSj hCj hP HM1 HS1 PS EL
          have td : ¬ ((j : Int) < j) := by omega
          go_upto_region 4 with fail
          refine wp_region_held_quiet (fun U => Below wr.heap.size wr U) (by kernel_rfl) (by kernel_rfl) (Ext.refl _).drew ?_
          have ne : Nonempty (HeldW (fun U => Below wr.heap.size wr U)) := ⟨⟨wr, Ext.refl _⟩⟩
          repeat (go_big_quiet_step (fail))
          refine wpQuiet_nil ?_
          intro _ hw'
          obtain ⟨⟨wz, hb2⟩, rfl⟩ := hw'
          have HO2 := Lib.hid (And.intro (HO.out.1.ext hb2) (HO.out.2.ext hb2))
          clear ne hb2 HO
          go_wp2_with fail
          exact ⟨⟨i + 1, _, by go_num, by omega, .inl (by omega), HO2.out.1, HO2.out.2, FIN⟩, by simp [intOf]; omega⟩
    · have ti : ¬ ((i : Int) < b) := by omega
      have FIN : Hid ((∃ d', SpF wr g n d' ∧ Stb.Mv a b d d' ∧ Stb.Srt key pl a b d') ∧ Only g w wr) := by
        have h3 := hM.out
        rw [Nat.min_eq_right (by omega)] at h3
        exact ⟨⟨e, hS, h3.1, h3.2⟩, hC⟩
      clear hM hS hC
      go_wp2_with fail
      go_end0
      exact ⟨rfl, FIN.out⟩
end Go.Proofs.Ytkamkjbllmgifaa
