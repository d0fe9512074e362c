/- Symmetric merges of spots. Printed by gen_stbm.py. -/
import Derived.Test.YtkamkjbllmgifaaStbI
import Derived.Deep.CutRange
import Derived.Deep.DeepCutAuto
namespace Go.Proofs.Ytkamkjbllmgifaa
open Go.RowKit

/-- The case of one element ahead of the others. -/
def SymPost (pl key : Int × Int → Int) (g n a b : Nat) (d : Nat → Int × Int) (w : World) (e' : Ending) (w' : World) : Prop :=
  e' = .returned (.tuple #[]) ∧ (∃ d', SpF w' g n d' ∧ Stb.Mv a b d d' ∧ Stb.Srt key pl a b d') ∧ Only g w w'
set_option maxRecDepth 100000 in
set_option maxHeartbeats 2000000 in
theorem symOne_any {K : FuncId} {caps : Array Value} {Inv : World → Prop} {El : Int × Int → Prop} {cm : Int × Int → Int × Int → Int} {key pl : Int × Int → Int} (g n c : Nat) (d : Nat → Int × Int) (a b : Nat) (w : World) (ck : CmpOk g K caps Inv El cm key) (h : SpF w g n d) (hI : Inv w) (hE : ∀ i, i < n → El (d i)) (hs : Stb.Srt key pl (a + 1) b d) (hp : Stb.Pl pl a (a + 1) b d) (h1 : a + 1 < b) (h2 : b ≤ n) (hn : n ≤ 1000000) :
    Calls Try.prog 115 #[.slice (some ⟨g, 0, none⟩) n c, .int .i64 a, .int .i64 (a + 1 : Nat), .int .i64 b, .func (.func K) #[] caps] w (SymPost pl key g n a b d w) := by
  have hK := ck.ent
  have CK := Lib.hid ck
  have EL := Lib.hid hE
  have HS0 := Lib.hid hs
  have HP0 := Lib.hid hp
  have w0 : IntKind.i64.wrap ((a : Int) + 1 - a) = 1 := by rw [IntWalk.i64_in _ (by omega)]; omega
  clear ck hE hs hp
  go_enter Try.func115, Try.ntmps115
  go_wp2_with fail
  go_loopw [10, 11] (fun iv jv wr => ∃ i j : Nat, iv = .int .i64 i ∧ jv = .int .i64 j ∧ a + 1 ≤ i ∧ i ≤ j ∧ j ≤ b ∧ SpF wr g n d ∧ Only g w wr ∧ Hid ((∀ x, a < x → x < i → key (d x) < key (d a)) ∧ ∀ x, j ≤ x → x < b → key (d a) ≤ key (d x))) (fun iv jv _ => (intOf jv).toNat - (intOf iv).toNat)
  case atStart => exact ⟨a + 1, b, by go_num, rfl, Nat.le_refl _, by omega, Nat.le_refl _, h, Chg.refl _ _, fun x q1 q2 => by omega, fun x q1 q2 => by omega⟩
  case round =>
    obtain ⟨i, j, rfl, rfl, hi, hij, hj, hS, hC, HB⟩ := hrel
    clear h w0
    by_cases hlt : i < j
    · have tij : (i : Int) < j := by omega
      obtain ⟨hh, hhh⟩ : ∃ hh, hh = (i + j) / 2 := ⟨_, rfl⟩
      have ws : IntKind.i64.wrap ((i : Int) + j) = ((i + j : Nat) : Int) := by rw [IntWalk.i64_in _ (by omega)]; simp
      have wh : ((i : Int) + j) / 2 = (hh : Int) := by omega
      have whh : IntKind.i64.wrap ((hh : Int) + 1) = ((hh + 1 : Nat) : Int) := by rw [IntWalk.i64_in _ (by omega)]; simp
      have i0 : (0 : Int) ≤ (hh : Int) := by omega
      have i1 : (hh : Int) < (n : Int) := by omega
      have i2 : (0 : Int) ≤ (a : Int) := by omega
      have i3 : (a : Int) < (n : Int) := by omega
      have hb1 : i ≤ hh ∧ hh < j := by omega
      clear hhh
      obtain ⟨c1, c2⟩ := hS.cell hh (by omega)
      obtain ⟨c3, c4⟩ := hS.cell a (by omega)
      have LT := CK.out.lt (d hh) (d a) (EL.out hh (by omega)) (EL.out a (by omega))
      have CA := Lib.hid (fun V (hb : Below wr.heap.size wr V) => CK.out.call V (d hh) (d a) (CK.out.keep w V hI (hC.ext hb)) (EL.out hh (by omega)) (EL.out a (by omega)))
      generalize hr : cm (d hh) (d a) = rc at *
      have HSJ := Lib.hid hS
      have HCJ := Lib.hid hC
      have lg := hS.lt
      have HLT := Lib.hid LT
      clear LT hr hS hC
      have KY : Hid (∀ b : Bool, decide (rc < 0) = b → (b = true ↔ key (d hh) < key (d a))) := fun b hb => by rw [← HLT.out, ← hb]; simp
      clear HLT
      obtain ⟨dd, hd⟩ : ∃ dd, decide (rc < 0) = dd := ⟨_, rfl⟩
      have KZ := Lib.hid (KY.out dd hd)
      clear KY
      cases dd
      · go_upto_region 5 with fail
        refine wp_region_held_quiet (fun U => Below wr.heap.size wr U) (by kernel_rfl) (by kernel_rfl) (Ext.refl _).drew ?_
        have ne : Nonempty (HeldW (fun U => Below wr.heap.size wr U)) := ⟨⟨wr, Ext.refl _⟩⟩
        have v1 : ∀ i : HeldW (fun U => Below wr.heap.size wr U), i.w.cell? ⟨g, hh * 2, none⟩ = _ := fun i => (i.h.cell (p := ⟨g, hh * 2, none⟩) lg).trans c1
        have v2 : ∀ i : HeldW (fun U => Below wr.heap.size wr U), i.w.cell? ⟨g, hh * 2 + 1, none⟩ = _ := fun i => (i.h.cell (p := ⟨g, hh * 2 + 1, none⟩) lg).trans c2
        have v3 : ∀ i : HeldW (fun U => Below wr.heap.size wr U), i.w.cell? ⟨g, a * 2, none⟩ = _ := fun i => (i.h.cell (p := ⟨g, a * 2, none⟩) lg).trans c3
        have v4 : ∀ i : HeldW (fun U => Below wr.heap.size wr U), i.w.cell? ⟨g, a * 2 + 1, none⟩ = _ := fun i => (i.h.cell (p := ⟨g, a * 2 + 1, none⟩) lg).trans c4
        repeat (go_big_quiet_step (exact Calls.above_of _ (CA.out _ (‹HeldW (fun U => Below wr.heap.size wr U)›).h)))
        refine wpQuiet_nil ?_
        intro _ hw'
        obtain ⟨⟨wz, hb2⟩, rfl⟩ := hw'
        clear ne v1 v2 v3 v4 c1 c2 c3 c4
        
        have HO := Lib.hid (And.intro (HSJ.out.ext hb2) (HCJ.out.ext hb2))
        have FIN : Hid ((∀ x, a < x → x < i → key (d x) < key (d a)) ∧ ∀ x, hh ≤ x → x < b → key (d a) ≤ key (d x)) := by
          refine ⟨HB.out.1, fun x q1 q2 => ?_⟩
          have k0 : key (d a) ≤ key (d hh) := by
            have : ¬ key (d hh) < key (d a) := fun h => by simpa using KZ.out.2 h
            omega
          by_cases e0 : x = hh
          · rw [e0]; exact k0
          · exact Int.le_trans k0 (Stb.lx_key (HS0.out hh x (by omega) (by omega) q2))
        clear HSJ HCJ hb2 CA KZ HB
        go_wp2_with fail
        exact ⟨⟨i, hh, rfl, rfl, hi, hb1.1, by omega, HO.out.1, HO.out.2, FIN⟩, by simp [intOf]; omega⟩
      · go_upto_region 5 with fail
        refine wp_region_held_quiet (fun U => Below wr.heap.size wr U) (by kernel_rfl) (by kernel_rfl) (Ext.refl _).drew ?_
        have ne : Nonempty (HeldW (fun U => Below wr.heap.size wr U)) := ⟨⟨wr, Ext.refl _⟩⟩
        have v1 : ∀ i : HeldW (fun U => Below wr.heap.size wr U), i.w.cell? ⟨g, hh * 2, none⟩ = _ := fun i => (i.h.cell (p := ⟨g, hh * 2, none⟩) lg).trans c1
        have v2 : ∀ i : HeldW (fun U => Below wr.heap.size wr U), i.w.cell? ⟨g, hh * 2 + 1, none⟩ = _ := fun i => (i.h.cell (p := ⟨g, hh * 2 + 1, none⟩) lg).trans c2
        have v3 : ∀ i : HeldW (fun U => Below wr.heap.size wr U), i.w.cell? ⟨g, a * 2, none⟩ = _ := fun i => (i.h.cell (p := ⟨g, a * 2, none⟩) lg).trans c3
        have v4 : ∀ i : HeldW (fun U => Below wr.heap.size wr U), i.w.cell? ⟨g, a * 2 + 1, none⟩ = _ := fun i => (i.h.cell (p := ⟨g, a * 2 + 1, none⟩) lg).trans c4
        repeat (go_big_quiet_step (exact Calls.above_of _ (CA.out _ (‹HeldW (fun U => Below wr.heap.size wr U)›).h)))
        refine wpQuiet_nil ?_
        intro _ hw'
        obtain ⟨⟨wz, hb2⟩, rfl⟩ := hw'
        clear ne v1 v2 v3 v4 c1 c2 c3 c4
        
        have HO := Lib.hid (And.intro (HSJ.out.ext hb2) (HCJ.out.ext hb2))
        have FIN : Hid ((∀ x, a < x → x < hh + 1 → key (d x) < key (d a)) ∧ ∀ x, j ≤ x → x < b → key (d a) ≤ key (d x)) := by
          refine ⟨fun x q1 q2 => ?_, HB.out.2⟩
          have k0 : key (d hh) < key (d a) := KZ.out.1 rfl
          by_cases e0 : x = hh
          · rw [e0]; exact k0
          · exact Int.lt_of_le_of_lt (Stb.lx_key (HS0.out x hh (by omega) (by omega) (by omega))) k0
        clear HSJ HCJ hb2 CA KZ HB
        go_wp2_with fail
        exact ⟨⟨hh + 1, j, by go_num, rfl, by omega, by omega, hj, HO.out.1, HO.out.2, FIN⟩, by simp [intOf]; omega⟩
    · obtain rfl : i = j := by omega
      have tij : ¬ ((i : Int) < i) := by omega
      obtain ⟨i', rfl⟩ : ∃ i', i = i' + 1 := ⟨i - 1, by omega⟩
      have wi : IntKind.i64.wrap ((i' : Int) + 1 - 1) = (i' : Int) := by rw [IntWalk.i64_in _ (by omega)]; omega
      have wi0 : IntKind.i64.wrap (i' : Int) = (i' : Int) := by rw [IntWalk.i64_in _ (by omega)]
      obtain ⟨w2, rfl⟩ : ∃ w2 : World, w2 = wr := ⟨_, rfl⟩
      go_wp2_with fail
      go_loopw [13] (fun kv wr => ∃ k : Nat, kv = .int .i64 k ∧ a ≤ k ∧ k ≤ i' ∧ SpF wr g n (Stb.inu d a k) ∧ Only g w wr) (fun kv _ => i' - (intOf kv).toNat)
      case atStart => exact ⟨a, rfl, Nat.le_refl _, by omega, by rw [Stb.inu_self]; exact hS, hC⟩
      case round =>
        obtain ⟨k, rfl, hak, hki, hSk, hCk⟩ := hrel
        clear hS hC
        have hS := hSk
        have hC := hCk
        clear hSk hCk
        by_cases hlk : k < i'
        · have tk : (k : Int) < i' := by omega
          have wk : IntKind.i64.wrap ((k : Int) + 1) = ((k + 1 : Nat) : Int) := by rw [IntWalk.i64_in _ (by omega)]; simp
          have i0 : (0 : Int) ≤ ((k + 1 : Nat) : Int) := by omega
          have i1 : ((k + 1 : Nat) : Int) < (n : Int) := by omega
          have i2 : (0 : Int) ≤ (k : Int) := by omega
          have i3 : (k : Int) < (n : Int) := by omega
          obtain ⟨c1, c2⟩ := hS.cell k (by omega)
          obtain ⟨c3, c4⟩ := hS.cell (k + 1) (by omega)
          have f := hS.free
          have SW := Lib.hid (hS.swap k (k + 1) (by omega) (by omega) (by omega))
          rw [Stb.inu_step d a k hak] at SW
          have HC := Lib.hid hC
          clear hS hC
          go_wp2_with fail
          go_region
          all_goals go_wp2_with fail
          all_goals exact ⟨⟨k + 1, by go_num, by omega, by omega, SW.out.draw, ((((HC.out.store (p := ⟨g, k * 2, none⟩) rfl _).store (p := ⟨g, k * 2 + 1, none⟩) rfl _).store (p := ⟨g, (k + 1) * 2, none⟩) rfl _).store (p := ⟨g, (k + 1) * 2 + 1, none⟩) rfl _).drewN 1⟩, by simp [intOf] <;> omega⟩
        · obtain rfl : k = i' := by omega
          have tk : ¬ ((k : Int) < k) := by omega
          have FIN : Hid (∃ d', SpF wr g n d' ∧ Stb.Mv a b d d' ∧ Stb.Srt key pl a b d') := by
            refine ⟨_, hS, ?_, ?_⟩
            · have := Stb.inu_mv d (a := a) (b := b) (a' := a) (Nat.le_refl _) (k - a) (by omega)
              rwa [show a + (k - a) = k by omega] at this
            · have := Stb.inu_srt (i := k + 1) HS0.out (fun x q1 q2 => HP0.out a x (Nat.le_refl _) (by omega) (by omega) q2) (by omega) hj HB.out.1 HB.out.2
              exact this
          have HC := Lib.hid hC
          clear hS hC HB
          go_wp2_with fail
          go_end0
          exact ⟨rfl, FIN.out, HC.out⟩
set_option maxRecDepth 100000 in
set_option maxHeartbeats 2000000 in
theorem symLast_any {K : FuncId} {caps : Array Value} {Inv : World → Prop} {El : Int × Int → Prop} {cm : Int × Int → Int × Int → Int} {key pl : Int × Int → Int} (g n c : Nat) (d : Nat → Int × Int) (a m : Nat) (w : World) (ck : CmpOk g K caps Inv El cm key) (h : SpF w g n d) (hI : Inv w) (hE : ∀ i, i < n → El (d i)) (hs : Stb.Srt key pl a m d) (hp : Stb.Pl pl a m (m + 1) d) (h1 : a + 1 < m) (h2 : m + 1 ≤ n) (hn : n ≤ 1000000) :
    Calls Try.prog 115 #[.slice (some ⟨g, 0, none⟩) n c, .int .i64 a, .int .i64 m, .int .i64 (m + 1 : Nat), .func (.func K) #[] caps] w (SymPost pl key g n a (m + 1) d w) := by
  have hK := ck.ent
  have CK := Lib.hid ck
  have EL := Lib.hid hE
  have HS0 := Lib.hid hs
  have HP0 := Lib.hid hp
  obtain ⟨ma, hma⟩ : ∃ ma, m = a + ma := ⟨m - a, by omega⟩
  have w0 : IntKind.i64.wrap ((m : Int) - a) = (ma : Int) := by rw [IntWalk.i64_in _ (by omega)]; omega
  have w1 : IntKind.i64.wrap ((m : Int) + 1 - m) = 1 := by rw [IntWalk.i64_in _ (by omega)]; omega
  have t0 : ((ma : Int) == 1) = false := by simp; omega
  clear ck hE hs hp hma
  go_enter Try.func115, Try.ntmps115
  go_wp2_with fail
  go_loopw [14, 15] (fun iv jv wr => ∃ i j : Nat, iv = .int .i64 i ∧ jv = .int .i64 j ∧ a ≤ i ∧ i ≤ j ∧ j ≤ m ∧ SpF wr g n d ∧ Only g w wr ∧ Hid ((∀ x, a ≤ x → x < i → key (d x) ≤ key (d m)) ∧ ∀ x, j ≤ x → x < m → key (d m) < key (d x))) (fun iv jv _ => (intOf jv).toNat - (intOf iv).toNat)
  case atStart => exact ⟨a, m, rfl, rfl, Nat.le_refl _, by omega, Nat.le_refl _, h, Chg.refl _ _, fun x q1 q2 => by omega, fun x q1 q2 => by omega⟩
  case round =>
    obtain ⟨i, j, rfl, rfl, hi, hij, hj, hS, hC, HB⟩ := hrel
    clear h w0 w1
    by_cases hlt : i < j
    · have tij : (i : Int) < j := by omega
      obtain ⟨hh, hhh⟩ : ∃ hh, hh = (i + j) / 2 := ⟨_, rfl⟩
      have ws : IntKind.i64.wrap ((i : Int) + j) = ((i + j : Nat) : Int) := by rw [IntWalk.i64_in _ (by omega)]; simp
      have wh : ((i : Int) + j) / 2 = (hh : Int) := by omega
      have whh : IntKind.i64.wrap ((hh : Int) + 1) = ((hh + 1 : Nat) : Int) := by rw [IntWalk.i64_in _ (by omega)]; simp
      have i0 : (0 : Int) ≤ (hh : Int) := by omega
      have i1 : (hh : Int) < (n : Int) := by omega
      have i2 : (0 : Int) ≤ (m : Int) := by omega
      have i3 : (m : Int) < (n : Int) := by omega
      have hb1 : i ≤ hh ∧ hh < j := by omega
      clear hhh
      obtain ⟨c1, c2⟩ := hS.cell m (by omega)
      obtain ⟨c3, c4⟩ := hS.cell hh (by omega)
      have LT := CK.out.lt (d m) (d hh) (EL.out m (by omega)) (EL.out hh (by omega))
      have CA := Lib.hid (fun V (hb : Below wr.heap.size wr V) => CK.out.call V (d m) (d hh) (CK.out.keep w V hI (hC.ext hb)) (EL.out m (by omega)) (EL.out hh (by omega)))
      generalize hr : cm (d m) (d hh) = rc at *
      have HSJ := Lib.hid hS
      have HCJ := Lib.hid hC
      have lg := hS.lt
      have HLT := Lib.hid LT
      clear LT hr hS hC
      have KY : Hid (∀ b : Bool, decide (rc < 0) = b → (b = true ↔ key (d m) < key (d hh))) := fun b hb => by rw [← HLT.out, ← hb]; simp
      clear HLT
      obtain ⟨dd, hd⟩ : ∃ dd, decide (rc < 0) = dd := ⟨_, rfl⟩
      have KZ := Lib.hid (KY.out dd hd)
      clear KY
      cases dd
      · go_upto_region 17 with fail
        refine wp_region_held_quiet (fun U => Below wr.heap.size wr U) (by kernel_rfl) (by kernel_rfl) (Ext.refl _).drew ?_
        have ne : Nonempty (HeldW (fun U => Below wr.heap.size wr U)) := ⟨⟨wr, Ext.refl _⟩⟩
        have v1 : ∀ i : HeldW (fun U => Below wr.heap.size wr U), i.w.cell? ⟨g, m * 2, none⟩ = _ := fun i => (i.h.cell (p := ⟨g, m * 2, none⟩) lg).trans c1
        have v2 : ∀ i : HeldW (fun U => Below wr.heap.size wr U), i.w.cell? ⟨g, m * 2 + 1, none⟩ = _ := fun i => (i.h.cell (p := ⟨g, m * 2 + 1, none⟩) lg).trans c2
        have v3 : ∀ i : HeldW (fun U => Below wr.heap.size wr U), i.w.cell? ⟨g, hh * 2, none⟩ = _ := fun i => (i.h.cell (p := ⟨g, hh * 2, none⟩) lg).trans c3
        have v4 : ∀ i : HeldW (fun U => Below wr.heap.size wr U), i.w.cell? ⟨g, hh * 2 + 1, none⟩ = _ := fun i => (i.h.cell (p := ⟨g, hh * 2 + 1, none⟩) lg).trans c4
        repeat (go_big_quiet_step (exact Calls.above_of _ (CA.out _ (‹HeldW (fun U => Below wr.heap.size wr U)›).h)))
        refine wpQuiet_nil ?_
        intro _ hw'
        obtain ⟨⟨wz, hb2⟩, rfl⟩ := hw'
        clear ne v1 v2 v3 v4 c1 c2 c3 c4
        
        have HO := Lib.hid (And.intro (HSJ.out.ext hb2) (HCJ.out.ext hb2))
        have FIN : Hid ((∀ x, a ≤ x → x < hh + 1 → key (d x) ≤ key (d m)) ∧ ∀ x, j ≤ x → x < m → key (d m) < key (d x)) := by
          refine ⟨fun x q1 q2 => ?_, HB.out.2⟩
          have k0 : key (d hh) ≤ key (d m) := by
            have : ¬ key (d m) < key (d hh) := fun h => by simpa using KZ.out.2 h
            omega
          by_cases e0 : x = hh
          · rw [e0]; exact k0
          · exact Int.le_trans (Stb.lx_key (HS0.out x hh q1 (by omega) (by omega))) k0
        clear HSJ HCJ hb2 CA KZ HB
        go_wp2_with fail
        exact ⟨⟨hh + 1, j, by go_num, rfl, by omega, by omega, hj, HO.out.1, HO.out.2, FIN⟩, by simp [intOf]; omega⟩
      · go_upto_region 17 with fail
        refine wp_region_held_quiet (fun U => Below wr.heap.size wr U) (by kernel_rfl) (by kernel_rfl) (Ext.refl _).drew ?_
        have ne : Nonempty (HeldW (fun U => Below wr.heap.size wr U)) := ⟨⟨wr, Ext.refl _⟩⟩
        have v1 : ∀ i : HeldW (fun U => Below wr.heap.size wr U), i.w.cell? ⟨g, m * 2, none⟩ = _ := fun i => (i.h.cell (p := ⟨g, m * 2, none⟩) lg).trans c1
        have v2 : ∀ i : HeldW (fun U => Below wr.heap.size wr U), i.w.cell? ⟨g, m * 2 + 1, none⟩ = _ := fun i => (i.h.cell (p := ⟨g, m * 2 + 1, none⟩) lg).trans c2
        have v3 : ∀ i : HeldW (fun U => Below wr.heap.size wr U), i.w.cell? ⟨g, hh * 2, none⟩ = _ := fun i => (i.h.cell (p := ⟨g, hh * 2, none⟩) lg).trans c3
        have v4 : ∀ i : HeldW (fun U => Below wr.heap.size wr U), i.w.cell? ⟨g, hh * 2 + 1, none⟩ = _ := fun i => (i.h.cell (p := ⟨g, hh * 2 + 1, none⟩) lg).trans c4
        repeat (go_big_quiet_step (exact Calls.above_of _ (CA.out _ (‹HeldW (fun U => Below wr.heap.size wr U)›).h)))
        refine wpQuiet_nil ?_
        intro _ hw'
        obtain ⟨⟨wz, hb2⟩, rfl⟩ := hw'
        clear ne v1 v2 v3 v4 c1 c2 c3 c4
        
        have HO := Lib.hid (And.intro (HSJ.out.ext hb2) (HCJ.out.ext hb2))
        have FIN : Hid ((∀ x, a ≤ x → x < i → key (d x) ≤ key (d m)) ∧ ∀ x, hh ≤ x → x < m → key (d m) < key (d x)) := by
          refine ⟨HB.out.1, fun x q1 q2 => ?_⟩
          have k0 : key (d m) < key (d hh) := KZ.out.1 rfl
          by_cases e0 : x = hh
          · rw [e0]; exact k0
          · exact Int.lt_of_lt_of_le k0 (Stb.lx_key (HS0.out hh x (by omega) (by omega) q2))
        clear HSJ HCJ hb2 CA KZ HB
        go_wp2_with fail
        exact ⟨⟨i, hh, rfl, rfl, hi, hb1.1, by omega, HO.out.1, HO.out.2, FIN⟩, by simp [intOf]; omega⟩
    · obtain rfl : i = j := by omega
      have tij : ¬ ((i : Int) < i) := by omega
      obtain ⟨w2, rfl⟩ : ∃ w2 : World, w2 = wr := ⟨_, rfl⟩
      go_wp2_with fail
      go_loopw [17] (fun kv wr => ∃ k : Nat, kv = .int .i64 k ∧ i ≤ k ∧ k ≤ m ∧ SpF wr g n (Stb.ins d m k) ∧ Only g w wr) (fun kv _ => (intOf kv).toNat)
      case atStart => exact ⟨m, rfl, hj, Nat.le_refl _, by rw [Stb.ins_self]; exact hS, hC⟩
      case round =>
        obtain ⟨k, rfl, hak, hki, hSk, hCk⟩ := hrel
        clear hS hC
        have hS := hSk
        have hC := hCk
        clear hSk hCk
        by_cases hlk : i < k
        · obtain ⟨k', rfl⟩ : ∃ k', k = k' + 1 := ⟨k - 1, by omega⟩
          have tk : (i : Int) < (k' : Int) + 1 := by omega
          have wk : IntKind.i64.wrap ((k' : Int) + 1 - 1) = (k' : Int) := by rw [IntWalk.i64_in _ (by omega)]; omega
          have wk0 : IntKind.i64.wrap (k' : Int) = (k' : Int) := by rw [IntWalk.i64_in _ (by omega)]
          have i0 : (0 : Int) ≤ ((k' + 1 : Nat) : Int) := by omega
          have i1 : ((k' + 1 : Nat) : Int) < (n : Int) := by omega
          have i2 : (0 : Int) ≤ (k' : Int) := by omega
          have i3 : (k' : Int) < (n : Int) := by omega
          obtain ⟨c1, c2⟩ := hS.cell (k' + 1) (by omega)
          obtain ⟨c3, c4⟩ := hS.cell k' (by omega)
          have f := hS.free
          have SW := Lib.hid (hS.swap (k' + 1) k' (by omega) (by omega) (by omega))
          rw [show Stb.swp (Stb.ins d m (k' + 1)) (k' + 1) k' = Stb.ins d m k' from Stb.ins_step d m (k' + 1) (by omega) hki] at SW
          have HC := Lib.hid hC
          clear hS hC
          go_wp2_with fail
          go_region
          all_goals go_wp2_with fail
          all_goals exact ⟨⟨k', rfl, by omega, by omega, SW.out.draw, ((((HC.out.store (p := ⟨g, (k' + 1) * 2, none⟩) rfl _).store (p := ⟨g, (k' + 1) * 2 + 1, none⟩) rfl _).store (p := ⟨g, k' * 2, none⟩) rfl _).store (p := ⟨g, k' * 2 + 1, none⟩) rfl _).drewN 1⟩, by simp [intOf] <;> omega⟩
        · obtain rfl : k = i := by omega
          have tk : ¬ ((k : Int) < k) := by omega
          have FIN : Hid (∃ d', SpF wr g n d' ∧ Stb.Mv a (m + 1) d d' ∧ Stb.Srt key pl a (m + 1) d') := by
            refine ⟨_, hS, ?_, ?_⟩
            · have := Stb.ins_mv d (a := a) (b := m + 1) (i := m) (by omega) (m - k) (by omega)
              rwa [show m - (m - k) = k by omega] at this
            · exact Stb.ins_srt HS0.out (fun x q1 q2 => HP0.out x m q1 q2 (Nat.le_refl _) (by omega)) hi hj HB.out.2 HB.out.1
          have HC := Lib.hid hC
          clear hS hC HB
          go_wp2_with fail
          go_end0
          exact ⟨rfl, FIN.out, HC.out⟩
end Go.Proofs.Ytkamkjbllmgifaa
