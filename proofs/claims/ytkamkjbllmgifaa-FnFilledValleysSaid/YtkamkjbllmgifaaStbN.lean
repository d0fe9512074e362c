/- Symmetric merges of spots: the middle. Printed by gen_stbm.py. -/
import Derived.Test.YtkamkjbllmgifaaStbM
namespace Go.Proofs.Ytkamkjbllmgifaa
open Go.RowKit
def SymAll (K : FuncId) (caps : Array Value) (Inv : World → Prop) (El : Int × Int → Prop) (key pl : Int × Int → Int) (g n c N : Nat) : Prop := ∀ (a m b : Nat) (d : Nat → Int × Int) (w : World), b - a < N → a < m → m < b → b ≤ n → SpF w g n d → Inv w → (∀ i, i < n → El (d i)) → Stb.Srt key pl a m d → Stb.Srt key pl m b d → Stb.Pl pl a m b d →
  Calls Try.prog 115 #[.slice (some ⟨g, 0, none⟩) n c, .int .i64 a, .int .i64 m, .int .i64 b, .func (.func K) #[] caps] w (SymPost pl key g n a b d w)
theorem rot_triv {E : Type} (d : Nat → E) (s m e : Nat) (h : ¬ (s < m ∧ m < e)) (hs : s ≤ m) (he : m ≤ e) : Stb.rot d s m e = d := by
  funext x
  unfold Stb.rot
  repeat' split
  all_goals first | rfl | (exfalso; omega) | (congr 1; omega)
set_option maxRecDepth 100000 in
set_option maxHeartbeats 4000000 in
theorem symMid_any {K : FuncId} {caps : Array Value} {Inv : World → Prop} {El : Int × Int → Prop} {cm : Int × Int → Int × Int → Int} {key pl : Int × Int → Int} (g n c N : Nat) (d : Nat → Int × Int) (a m b : Nat) (w : World) (ck : CmpOk g K caps Inv El cm key) (ih : SymAll K caps Inv El key pl g n c N) (hN : b - a < N + 1) (h : SpF w g n d) (hI : Inv w) (hE : ∀ i, i < n → El (d i)) (hs : Stb.Srt key pl a m d) (hs2 : Stb.Srt key pl m b d) (hp : Stb.Pl pl a m b d) (h1 : a + 1 < m) (h2 : m + 1 < b) (h3 : b ≤ n) (hn : n ≤ 1000000) :
    Calls Try.prog 115 #[.slice (some ⟨g, 0, none⟩) n c, .int .i64 a, .int .i64 m, .int .i64 b, .func (.func K) #[] caps] w (SymPost pl key g n a b d w) := by
  have hK := ck.ent
  have CK := Lib.hid ck
  have EL := Lib.hid hE
  have HS1 := Lib.hid hs
  have HS2 := Lib.hid hs2
  have HP0 := Lib.hid hp
  have IH := Lib.hid ih
  have ROT := Lib.hid (fun V s e (q1 : s < m) (q2 : m < e) (q3 : e ≤ n) (hV : SpF V g n d) => rotate_any g n c d s m e (.func (.func K) #[] caps) V hV q1 q2 q3 hn)
  obtain ⟨ma, hma⟩ : ∃ ma, m = a + ma := ⟨m - a, by omega⟩
  obtain ⟨mb, hmb⟩ : ∃ mb, b = m + mb := ⟨b - m, by omega⟩
  obtain ⟨mid, hmid⟩ : ∃ mid, mid = (a + b) / 2 := ⟨_, rfl⟩
  obtain ⟨nn, hnn⟩ : ∃ nn, nn = mid + m := ⟨_, rfl⟩
  obtain ⟨pp, hpp⟩ : ∃ pp, nn = pp + 1 := ⟨nn - 1, by omega⟩
  obtain ⟨lo, hlo⟩ : ∃ lo, lo = if mid < m then nn - b else a := ⟨_, rfl⟩
  obtain ⟨hi, hhi⟩ : ∃ hi, hi = if mid < m then mid else m := ⟨_, rfl⟩
  have w0 : IntKind.i64.wrap ((m : Int) - a) = (ma : Int) := by rw [IntWalk.i64_in _ (by omega)]; omega
  have w1 : IntKind.i64.wrap ((b : Int) - m) = (mb : Int) := by rw [IntWalk.i64_in _ (by omega)]; omega
  have t0 : ((ma : Int) == 1) = false := by simp; omega
  have t1 : ((mb : Int) == 1) = false := by simp; omega
  have w2 : IntKind.i64.wrap ((a : Int) + b) = ((a + b : Nat) : Int) := by rw [IntWalk.i64_in _ (by omega)]; simp
  have w3 : ((a : Int) + b) / 2 = (mid : Int) := by omega
  have w4 : IntKind.i64.wrap ((mid : Int) + m) = (nn : Int) := by rw [IntWalk.i64_in _ (by omega)]; omega
  have w5 : IntKind.i64.wrap ((nn : Int) - 1) = (pp : Int) := by rw [IntWalk.i64_in _ (by omega)]; omega
  have w6 : mid < m → IntKind.i64.wrap ((nn : Int) - b) = (lo : Int) := by
    intro hm
    rw [if_pos hm] at hlo
    rw [IntWalk.i64_in _ (by omega)]; omega
  have FACTS : Hid (mid = (a + b) / 2 ∧ nn = mid + m ∧ nn = pp + 1 ∧ ((mid < m ∧ lo + b = nn ∧ hi = mid) ∨ (m ≤ mid ∧ lo = a ∧ hi = m)) ∧ a < mid ∧ mid < b) := by
    refine ⟨hmid, hnn, hpp, ?_, by omega, by omega⟩
    by_cases hm : mid < m
    · rw [if_pos hm] at hlo hhi
      exact .inl ⟨hm, by omega, hhi⟩
    · rw [if_neg hm] at hlo hhi
      exact .inr ⟨by omega, hlo, hhi⟩
  have LO : Hid (¬ mid < m → lo = a ∧ hi = m) := fun hm => ⟨by rw [hlo, if_neg hm], by rw [hhi, if_neg hm]⟩
  have LP : Hid (mid < m → hi = mid) := fun hm => by rw [hhi, if_pos hm]
  have LH : lo ≤ hi := by have := FACTS.out; omega
  clear ck hE hs hs2 hp ih hma hmb hmid hnn hpp hlo hhi
  go_enter Try.func115, Try.ntmps115
  go_upto_if 140 with fail
  go_cut [20, 21] (fun s20 s21 wx => s20 = .int .i64 lo ∧ s21 = .int .i64 hi ∧ wx = w)
  case first =>
    by_cases hm : mid < m
    · have tm : (mid : Int) < m := by omega
      have w7 := w6 hm
      have e1 := LP.out hm
      subst e1
      go_wp2_with fail
      go_meet
      exact ⟨rfl, rfl, rfl⟩
    · have tm : ¬ ((mid : Int) < m) := by omega
      obtain ⟨e1, e2⟩ := LO.out hm
      subst e1 e2
      go_wp2_with fail
      go_meet
      exact ⟨rfl, rfl, rfl⟩
  case rest =>
    obtain ⟨rfl, rfl, hwc⟩ := hcut
    obtain rfl : w = wc := hwc.symm
    clear hwc w0 w1 t0 t1 w2 w3 w4 w6 LO LP
    go_wp2_with fail
    clear w5
    go_loopw [20, 21] (fun iv jv wr => ∃ s r : Nat, iv = .int .i64 s ∧ jv = .int .i64 r ∧ lo ≤ s ∧ s ≤ r ∧ r ≤ hi ∧ SpF wr g n d ∧ Only g w wr ∧ Hid ((lo < s → key (d (s - 1)) ≤ key (d (nn - s))) ∧ (r < hi → key (d (nn - 1 - r)) < key (d r)))) (fun iv jv _ => (intOf jv).toNat - (intOf iv).toNat)
    case atStart => exact ⟨lo, hi, rfl, rfl, Nat.le_refl _, LH, Nat.le_refl _, h, Chg.refl _ _, fun q => by omega, fun q => by omega⟩
    case round =>
      obtain ⟨s, r, rfl, rfl, hls, hsr, hrh, hS, hC, HB⟩ := hrel
      clear h
      obtain ⟨f1, f2, f3, f4, f5, f6⟩ := FACTS.out
      by_cases hlt : s < r
      · have tij : (s : Int) < r := by omega
        obtain ⟨cc, hcc⟩ : ∃ cc, cc = (s + r) / 2 := ⟨_, rfl⟩
        have hb1 : s ≤ cc ∧ cc < r := by omega
        obtain ⟨pc, hpc⟩ : ∃ pc, pp = pc + cc := ⟨pp - cc, by omega⟩
        have hb2' : m ≤ pc ∧ pc < b ∧ a ≤ cc ∧ cc < m ∧ cc < n := by omega
        have ws : IntKind.i64.wrap ((s : Int) + r) = ((s + r : Nat) : Int) := by rw [IntWalk.i64_in _ (by omega)]; simp
        have wh : ((s : Int) + r) / 2 = (cc : Int) := by omega
        have wpc : IntKind.i64.wrap ((pp : Int) - cc) = (pc : Int) := by rw [IntWalk.i64_in _ (by omega)]; omega
        have whh : IntKind.i64.wrap ((cc : Int) + 1) = ((cc + 1 : Nat) : Int) := by rw [IntWalk.i64_in _ (by omega)]; simp
        have i0 : (0 : Int) ≤ (cc : Int) := by omega
        have i1 : (cc : Int) < (n : Int) := by omega
        have i2 : (0 : Int) ≤ (pc : Int) := by omega
        have i3 : (pc : Int) < (n : Int) := by omega
        have HPC : Hid (pc = nn - 1 - cc ∧ pc = nn - (cc + 1)) := by rw [Hid]; omega
        clear hcc hpc f1 f2 f3 f4 f5 f6
        obtain ⟨c1, c2⟩ := hS.cell pc (by omega)
        obtain ⟨c3, c4⟩ := hS.cell cc (by omega)
        have LT := CK.out.lt (d pc) (d cc) (EL.out pc (by omega)) (EL.out cc (by omega))
        have CA := Lib.hid (fun V (hb : Below wr.heap.size wr V) => CK.out.call V (d pc) (d cc) (CK.out.keep w V hI (hC.ext hb)) (EL.out pc (by omega)) (EL.out cc (by omega)))
        generalize hr : cm (d pc) (d cc) = rc at *
        have HSJ := Lib.hid hS
        have HCJ := Lib.hid hC
        have lg := hS.lt
        have HLT := Lib.hid LT
        clear LT hr hS hC
        have KY : Hid (∀ b : Bool, decide (rc < 0) = b → (b = true ↔ key (d pc) < key (d cc))) := fun b hb => by rw [← HLT.out, ← hb]; simp
        clear HLT
        obtain ⟨dd, hd⟩ : ∃ dd, decide (rc < 0) = dd := ⟨_, rfl⟩
        have KZ := Lib.hid (KY.out dd hd)
        clear KY
        cases dd
        · as_aux_lemma =>
            go_upto_region 35 with fail
            refine wp_region_held_quiet (fun U => Below wr.heap.size wr U) (by kernel_rfl) (by kernel_rfl) (Ext.refl _).drew ?_
            have ne : Nonempty (HeldW (fun U => Below wr.heap.size wr U)) := ⟨⟨wr, Ext.refl _⟩⟩
            have v1 : ∀ i : HeldW (fun U => Below wr.heap.size wr U), i.w.cell? ⟨g, pc * 2, none⟩ = _ := fun i => (i.h.cell (p := ⟨g, pc * 2, none⟩) lg).trans c1
            have v2 : ∀ i : HeldW (fun U => Below wr.heap.size wr U), i.w.cell? ⟨g, pc * 2 + 1, none⟩ = _ := fun i => (i.h.cell (p := ⟨g, pc * 2 + 1, none⟩) lg).trans c2
            have v3 : ∀ i : HeldW (fun U => Below wr.heap.size wr U), i.w.cell? ⟨g, cc * 2, none⟩ = _ := fun i => (i.h.cell (p := ⟨g, cc * 2, none⟩) lg).trans c3
            have v4 : ∀ i : HeldW (fun U => Below wr.heap.size wr U), i.w.cell? ⟨g, cc * 2 + 1, none⟩ = _ := fun i => (i.h.cell (p := ⟨g, cc * 2 + 1, none⟩) lg).trans c4
            repeat (go_big_quiet_step (exact Calls.above_of _ (CA.out _ (‹HeldW (fun U => Below wr.heap.size wr U)›).h)))
            refine wpQuiet_nil ?_
            intro _ hw'
            obtain ⟨⟨wz, hb2⟩, rfl⟩ := hw'
            clear ne v1 v2 v3 v4 c1 c2 c3 c4
            
            have HO := Lib.hid (And.intro (HSJ.out.ext hb2) (HCJ.out.ext hb2))
            have FIN : Hid ((lo < cc + 1 → key (d (cc + 1 - 1)) ≤ key (d (nn - (cc + 1)))) ∧ (r < hi → key (d (nn - 1 - r)) < key (d r))) := by
              refine ⟨fun _ => ?_, HB.out.2⟩
              rw [show cc + 1 - 1 = cc by omega, ← HPC.out.2]
              have : ¬ key (d pc) < key (d cc) := fun h => by simpa using KZ.out.2 h
              omega
            clear HSJ HCJ hb2 CA KZ HB HPC
            go_wp2_with fail
            exact ⟨⟨cc + 1, r, by go_num, rfl, by omega, by omega, hrh, HO.out.1, HO.out.2, FIN⟩, by simp [intOf]; omega⟩
        · as_aux_lemma =>
            go_upto_region 35 with fail
            refine wp_region_held_quiet (fun U => Below wr.heap.size wr U) (by kernel_rfl) (by kernel_rfl) (Ext.refl _).drew ?_
            have ne : Nonempty (HeldW (fun U => Below wr.heap.size wr U)) := ⟨⟨wr, Ext.refl _⟩⟩
            have v1 : ∀ i : HeldW (fun U => Below wr.heap.size wr U), i.w.cell? ⟨g, pc * 2, none⟩ = _ := fun i => (i.h.cell (p := ⟨g, pc * 2, none⟩) lg).trans c1
            have v2 : ∀ i : HeldW (fun U => Below wr.heap.size wr U), i.w.cell? ⟨g, pc * 2 + 1, none⟩ = _ := fun i => (i.h.cell (p := ⟨g, pc * 2 + 1, none⟩) lg).trans c2
            have v3 : ∀ i : HeldW (fun U => Below wr.heap.size wr U), i.w.cell? ⟨g, cc * 2, none⟩ = _ := fun i => (i.h.cell (p := ⟨g, cc * 2, none⟩) lg).trans c3
            have v4 : ∀ i : HeldW (fun U => Below wr.heap.size wr U), i.w.cell? ⟨g, cc * 2 + 1, none⟩ = _ := fun i => (i.h.cell (p := ⟨g, cc * 2 + 1, none⟩) lg).trans c4
            repeat (go_big_quiet_step (exact Calls.above_of _ (CA.out _ (‹HeldW (fun U => Below wr.heap.size wr U)›).h)))
            refine wpQuiet_nil ?_
            intro _ hw'
            obtain ⟨⟨wz, hb2⟩, rfl⟩ := hw'
            clear ne v1 v2 v3 v4 c1 c2 c3 c4
            
            have HO := Lib.hid (And.intro (HSJ.out.ext hb2) (HCJ.out.ext hb2))
            have FIN : Hid ((lo < s → key (d (s - 1)) ≤ key (d (nn - s))) ∧ (cc < hi → key (d (nn - 1 - cc)) < key (d cc))) := by
              refine ⟨HB.out.1, fun _ => ?_⟩
              rw [← HPC.out.1]
              exact KZ.out.1 rfl
            clear HSJ HCJ hb2 CA KZ HB HPC
            go_wp2_with fail
            exact ⟨⟨s, cc, rfl, rfl, hls, by omega, by omega, HO.out.1, HO.out.2, FIN⟩, by simp [intOf]; omega⟩
      · obtain rfl : s = r := by omega
        have tij : ¬ ((s : Int) < s) := by omega
        obtain ⟨e, he⟩ : ∃ e, nn = e + s := ⟨nn - s, by omega⟩
        have we : IntKind.i64.wrap ((nn : Int) - s) = (e : Int) := by rw [IntWalk.i64_in _ (by omega)]; omega
        have ee : (a + b) / 2 + m - s = e := by omega
        have bs : a ≤ s ∧ s ≤ m ∧ m ≤ e ∧ e ≤ b ∧ s ≤ mid ∧ mid ≤ e := by omega
        have MS := Stb.mid_srt HS1.out HS2.out (s := s) (by omega) (by omega) (by omega) (by omega) (by omega) (by omega)
          (fun q1 q2 => by
            rw [ee] at q2 ⊢
            have k0 := HB.out.1 (by omega)
            rw [show nn - s = e by omega] at k0
            have k1 := HP0.out (s - 1) e (by omega) (by omega) (by omega) q2
            unfold Stb.lx; omega)
          (fun q1 q2 => by
            rw [ee] at q2 ⊢
            have k0 := HB.out.2 (by omega)
            rw [show nn - 1 - s = e - 1 by omega] at k0
            exact .inl k0)
        have RP := Stb.rot_pl HP0.out (s := s) (by omega) (by omega) (by omega) (by omega) (by omega) (by omega)
        have RM := Stb.Mv.rot d (a := s) (m := m) (b := e) (by omega) (by omega)
        rw [ee, ← f1] at MS RP
        have HM := Lib.hid MS
        have HRP := Lib.hid RP
        have HRM := Lib.hid (RM.mono (a' := a) (b' := b) (by omega) (by omega))
        have RT : Hid (¬ (s < m ∧ m < e) → Stb.rot d s m e = d) := fun hq => rot_triv d s m e hq (by omega) (by omega)
        have R1 := Lib.hid (fun q1 q2 q3 => ROT.out wr s e q1 q2 q3 hS)
        have HS := Lib.hid (And.intro hS hC)
        clear MS RP RM HB hS hC he ee f1 f2 f3 f4 ROT HP0 HS1 HS2
        generalize Stb.rot d s m e = R at *
        have L1 : Hid (¬ (a < s ∧ s < mid) → Stb.Srt key pl a mid R) := fun hq => by
          by_cases c1 : s = mid
          · subst c1; exact HM.out.2.1
          · obtain rfl : s = a := by omega
            exact HM.out.2.2.1
        have L2 : Hid (¬ (mid < e ∧ e < b) → Stb.Srt key pl mid b R) := fun hq => by
          by_cases c1 : e = b
          · subst c1; exact HM.out.2.2.2.1
          · obtain rfl : e = mid := by omega
            exact HM.out.2.2.2.2
        have ER := Lib.hid (elMv EL.out HRM.out h3)
        have FINQ : Hid (∀ (d2 d3 : Nat → Int × Int) (V : World), Stb.Mv a mid R d2 → Stb.Srt key pl a mid d2 → Stb.Mv mid b d2 d3 → Stb.Srt key pl mid b d3 → SpF V g n d3 → Only g w V → SymPost pl key g n a b d w (.returned (.tuple #[])) V) := fun d2 d3 V m1 s1 m2 s2 hV hO =>
          ⟨rfl, ⟨d3, hV, HRM.out.trans ((m1.mono (Nat.le_refl _) (by omega)).trans (m2.mono (by omega) (Nat.le_refl _))), Stb.join_srt HM.out.1 d3 m1 m2 s1 s2⟩, hO⟩
        have IL : Hid (∀ V, SpF V g n R → Only g w V → a < s → s < mid → Calls Try.prog 115 #[.slice (some ⟨g, 0, none⟩) n c, .int .i64 a, .int .i64 s, .int .i64 mid, .func (.func K) #[] caps] V (SymPost pl key g n a mid R V)) := fun V hV hO q3 q4 =>
          IH.out a s mid R V (by omega) q3 q4 (by omega) hV (CK.out.keep w V hI hO) ER.out HM.out.2.1 HM.out.2.2.1 HRP.out.1
        have IR : Hid (∀ V d2, SpF V g n d2 → Only g w V → Stb.Mv a mid R d2 → mid < e → e < b → Calls Try.prog 115 #[.slice (some ⟨g, 0, none⟩) n c, .int .i64 mid, .int .i64 e, .int .i64 b, .func (.func K) #[] caps] V (SymPost pl key g n mid b d2 V)) := fun V d2 hV hO hm q3 q4 =>
          IH.out mid e b d2 V (by omega) q3 q4 h3 hV (CK.out.keep w V hI hO) (elMv ER.out hm (by omega)) (HM.out.2.2.2.1.congr fun x hx _ => hm.out (by omega)) (HM.out.2.2.2.2.congr fun x hx _ => hm.out (by omega)) (fun i j p1 p2 p3 p4 => by rw [hm.out (by omega), hm.out (by omega)]; exact HRP.out.2 i j p1 p2 p3 p4)
        have KR : Hid (∀ d2, Stb.Mv a mid R d2 → ¬ (mid < e ∧ e < b) → Stb.Srt key pl mid b d2) := fun d2 hm hq => (L2.out hq).congr fun x hx _ => hm.out (by omega)
        clear IH HM HRP HRM EL ER CK L2 FACTS tij
        as_aux_lemma =>
          obtain ⟨hS1, hO1⟩ := HS.out
          clear HS
          have HS := Lib.hid (And.intro hS1 hO1)
          clear hS1 hO1
          go_upto_region 39 with fail
          go_cut [185] (fun c wx => c = .bool (decide (s < m ∧ m < e)) ∧ wx = wr)
          case first => as_aux_lemma =>
            by_cases q1 : s < m
            · by_cases q2 : m < e
              · have t1 : (s : Int) < m := by omega
                have t2 : (m : Int) < e := by omega
                go_wp2_with fail
                go_meet
                exact ⟨by simp [q1, q2], rfl⟩
              · have t1 : (s : Int) < m := by omega
                have t2 : ¬ ((m : Int) < e) := by omega
                go_wp2_with fail
                go_meet
                exact ⟨by simp [q1, q2], rfl⟩
            · have t1 : ¬ ((s : Int) < m) := by omega
              go_wp2_with fail
              go_meet
              exact ⟨by simp [q1], rfl⟩
          case rest => as_aux_lemma =>
            obtain ⟨rfl, hwc⟩ := hcut
            subst hwc
            obtain ⟨b1, hb1⟩ : ∃ b1, b1 = decide (s < m ∧ m < e) := ⟨_, rfl⟩
            rw [← hb1]
            have HB1 : Hid (b1 = true ↔ (s < m ∧ m < e)) := by rw [Hid, hb1]; simp
            clear hb1 we
            go_upto_if 185 with fail
            go_cut [] (fun wx => SpF wx g n R ∧ Only g w wx)
            case first => as_aux_lemma =>
              cases b1
              · have RT2 := Lib.hid (RT.out (fun q => by simpa using HB1.out.2 q))
                go_wp2_with fail
                go_meet
                exact ⟨by have h := HS.out.1; rwa [← RT2.out] at h, HS.out.2⟩
              · have q := HB1.out.1 rfl
                have R2 := Lib.hid (R1.out q.1 q.2 (by omega))
                clear R1 RT q
                go_wp2_with (go_at_call 128; refine R2.out.mono ?_; rintro e' w7 ⟨rfl, hS7, hO7⟩)
                go_meet
                exact ⟨hS7, HS.out.2.trans hO7⟩
            case rest => as_aux_lemma =>
              clear HS R1 RT HB1 b1
              obtain ⟨hSc, hOc⟩ := hcut
              have HS := Lib.hid (And.intro hSc hOc)
              clear hSc hOc
              go_upto_region 41 with fail
              go_cut [199] (fun c wx => c = .bool (decide (a < s ∧ s < mid)) ∧ wx = wc)
              case first => as_aux_lemma =>
                by_cases q1 : a < s
                · by_cases q2 : s < mid
                  · have t1 : (a : Int) < s := by omega
                    have t2 : (s : Int) < mid := by omega
                    go_wp2_with fail
                    go_meet
                    exact ⟨by simp [q1, q2], rfl⟩
                  · have t1 : (a : Int) < s := by omega
                    have t2 : ¬ ((s : Int) < mid) := by omega
                    go_wp2_with fail
                    go_meet
                    exact ⟨by simp [q1, q2], rfl⟩
                · have t1 : ¬ ((a : Int) < s) := by omega
                  go_wp2_with fail
                  go_meet
                  exact ⟨by simp [q1], rfl⟩
              case rest => as_aux_lemma =>
                obtain ⟨rfl, hwc⟩ := hcut
                obtain ⟨wq, hwq⟩ : ∃ wq : World, wq = wc := ⟨_, rfl⟩
                rw [← hwq] at hwc ⊢
                clear hwq
                subst hwc
                obtain ⟨b1, hb1⟩ : ∃ b1, b1 = decide (a < s ∧ s < mid) := ⟨_, rfl⟩
                rw [← hb1]
                have HB1 : Hid (b1 = true ↔ (a < s ∧ s < mid)) := by rw [Hid, hb1]; simp
                clear hb1
                go_upto_if 199 with fail
                go_cut [] (fun wx => ∃ d2, SpF wx g n d2 ∧ Stb.Mv a mid R d2 ∧ Stb.Srt key pl a mid d2 ∧ Only g w wx)
                case first => as_aux_lemma =>
                  cases b1
                  · have SL := Lib.hid (L1.out (fun q => by simpa using HB1.out.2 q))
                    go_wp2_with fail
                    go_meet
                    exact ⟨R, HS.out.1, Stb.Mv.refl _ _ _, SL.out, HS.out.2⟩
                  · have q := HB1.out.1 rfl
                    have R2 := Lib.hid (IL.out _ HS.out.1 HS.out.2 q.1 q.2)
                    clear IL IR q
                    go_wp2_with (go_at_call 115; refine R2.out.mono ?_; rintro e' w8 ⟨rfl, ⟨d2, hS8, hm8, hs8⟩, hO8⟩)
                    go_meet
                    exact ⟨d2, hS8, hm8, hs8, HS.out.2.trans hO8⟩
                case rest => as_aux_lemma =>
                  clear HS IL L1 HB1 b1
                  obtain ⟨d2, hS2, hm2, hs2, hO2⟩ := hcut
                  have HS := Lib.hid (And.intro hS2 hO2)
                  have HM2 := Lib.hid (And.intro hm2 hs2)
                  clear hS2 hO2 hm2 hs2
                  go_upto_region 43 with fail
                  go_cut [213] (fun c wx => c = .bool (decide (mid < e ∧ e < b)) ∧ wx = wc)
                  case first => as_aux_lemma =>
                    by_cases q1 : mid < e
                    · by_cases q2 : e < b
                      · have t1 : (mid : Int) < e := by omega
                        have t2 : (e : Int) < b := by omega
                        go_wp2_with fail
                        go_meet
                        exact ⟨by simp [q1, q2], rfl⟩
                      · have t1 : (mid : Int) < e := by omega
                        have t2 : ¬ ((e : Int) < b) := by omega
                        go_wp2_with fail
                        go_meet
                        exact ⟨by simp [q1, q2], rfl⟩
                    · have t1 : ¬ ((mid : Int) < e) := by omega
                      go_wp2_with fail
                      go_meet
                      exact ⟨by simp [q1], rfl⟩
                  case rest => as_aux_lemma =>
                    obtain ⟨rfl, hwc⟩ := hcut
                    subst hwc
                    obtain ⟨b1, hb1⟩ : ∃ b1, b1 = decide (mid < e ∧ e < b) := ⟨_, rfl⟩
                    rw [← hb1]
                    have HB1 : Hid (b1 = true ↔ (mid < e ∧ e < b)) := by rw [Hid, hb1]; simp
                    clear hb1
                    go_upto_if 213 with fail
                    cases b1
                    · have K2 := Lib.hid (KR.out d2 HM2.out.1 (fun q => by simpa using HB1.out.2 q))
                      go_wp2_with fail
                      go_end0
                      exact FINQ.out d2 d2 _ HM2.out.1 HM2.out.2 (Stb.Mv.refl _ _ _) K2.out HS.out.1 HS.out.2
                    · have q := HB1.out.1 rfl
                      have R2 := Lib.hid (IR.out _ d2 HS.out.1 HS.out.2 HM2.out.1 q.1 q.2)
                      clear IR KR q
                      go_wp2_with (go_at_call 115; refine R2.out.mono ?_; rintro e' w9 ⟨rfl, ⟨d3, hS9, hm9, hs9⟩, hO9⟩)
                      go_end0
                      exact FINQ.out d2 d3 w9 HM2.out.1 HM2.out.2 hm9 hs9 hS9 (HS.out.2.trans hO9)
theorem symMerge_any {K : FuncId} {caps : Array Value} {Inv : World → Prop} {El : Int × Int → Prop} {cm : Int × Int → Int × Int → Int} {key pl : Int × Int → Int} (g n c : Nat) (ck : CmpOk g K caps Inv El cm key) (hn : n ≤ 1000000) : ∀ N, SymAll K caps Inv El key pl g n c N := by
  intro N
  induction N with
  | zero => intro a m b d w hN; omega
  | succ N ih =>
    intro a m b d w hN h1 h2 h3 h hI hE hs hs2 hp
    by_cases c1 : m = a + 1
    · subst c1
      exact symOne_any g n c d a b w ck h hI hE hs2 hp h2 h3 hn
    · by_cases c2 : b = m + 1
      · subst c2
        exact symLast_any g n c d a m w ck h hI hE hs hp (by omega) h3 hn
      · exact symMid_any g n c N d a m b w ck ih hN h hI hE hs hs2 hp (by omega) (by omega) h3 hn
end Go.Proofs.Ytkamkjbllmgifaa
