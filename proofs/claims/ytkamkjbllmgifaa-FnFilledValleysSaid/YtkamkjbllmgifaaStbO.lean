/- slices.SortStableFunc at spots: blocks of twenty, merged. -/
import Derived.Test.YtkamkjbllmgifaaStbN
namespace Go.Proofs.Ytkamkjbllmgifaa
open Go.RowKit
set_option maxRecDepth 100000 in
set_option maxHeartbeats 2000000 in
theorem stable_any {K : FuncId} {caps : Array Value} {Inv : World → Prop} {El : Int × Int → Prop} {cm : Int × Int → Int × Int → Int} {key pl : Int × Int → Int} (g n c : Nat) (d : Nat → Int × Int) (w : World) (ck : CmpOk g K caps Inv El cm key) (h : SpF w g n d) (hI : Inv w) (hE : ∀ i, i < n → El (d i)) (hA : Stb.Asc pl 0 n d) (hn : n ≤ 1000000) :
    Calls Try.prog 97 #[.slice (some ⟨g, 0, none⟩) n c, .int .i64 n, .func (.func K) #[] caps] w fun e' w' => e' = .returned (.tuple #[]) ∧ (∃ d', SpF w' g n d' ∧ Stb.Mv 0 n d d' ∧ Stb.Srt key pl 0 n d') ∧ Only g w w' := by
  have INS : Hid (∀ (V : World) (e : Nat → Int × Int) (a b : Nat), SpF V g n e → Only g w V → Stb.Mv 0 n d e → Stb.Asc pl a b e → a ≤ b → b ≤ n →
      Calls Try.prog 114 #[.slice (some ⟨g, 0, none⟩) n c, .int .i64 a, .int .i64 b, .func (.func K) #[] caps] V fun e' w' => e' = .returned (.tuple #[]) ∧ (∃ d', SpF w' g n d' ∧ Stb.Mv a b e d' ∧ Stb.Srt key pl a b d') ∧ Only g V w') :=
    fun V e a b hV hO hm ha h1 h2 => insertion_any g n c e a b V ck hV (ck.keep w V hI hO) (elMv hE hm (Nat.le_refl _)) ha h1 h2 hn
  have SYM : Hid (∀ (V : World) (e : Nat → Int × Int) (a m b : Nat), SpF V g n e → Only g w V → Stb.Mv 0 n d e → Stb.Srt key pl a m e → Stb.Srt key pl m b e → Stb.Pl pl a m b e → a < m → m < b → b ≤ n →
      Calls Try.prog 115 #[.slice (some ⟨g, 0, none⟩) n c, .int .i64 a, .int .i64 m, .int .i64 b, .func (.func K) #[] caps] V (SymPost pl key g n a b e V)) :=
    fun V e a m b hV hO hm s1 s2 hp h1 h2 h3 => symMerge_any g n c ck hn (b - a + 1) a m b e V (by omega) h1 h2 h3 hV (ck.keep w V hI hO) (elMv hE hm (Nat.le_refl _)) s1 s2 hp
  have HA := Lib.hid hA
  clear ck hI hE hA
  go_enter Try.func97, Try.ntmps97
  go_wp2_with fail
  go_loopw [7, 8] (fun av bv wr => ∃ (a b q : Nat) (e : Nat → Int × Int), av = .int .i64 a ∧ bv = .int .i64 b ∧ Hid (b = a + 20) ∧ Hid (a = q * 20) ∧ a ≤ n ∧ SpF wr g n e ∧ Only g w wr ∧ Hid (Stb.IB key pl 20 n q d e)) (fun _ bv _ => n + 20 - (intOf bv).toNat)
  case atStart => exact ⟨0, 20, 0, d, rfl, rfl, by simp [Hid], by simp [Hid], Nat.zero_le _, h, Chg.refl _ _, Stb.IB.start HA.out⟩
  case round =>
    obtain ⟨a, b, q, e, rfl, rfl, hb, hq, han, hS, hC, hM⟩ := hrel
    clear h
    have hb1 := hb.out
    have hmv : Stb.Mv 0 n d e := hM.out.mv.mono (Nat.le_refl _) (by rw [← hq.out]; exact han)
    have HC := Lib.hid hC
    by_cases hlt : b ≤ n
    · have tb : (b : Int) ≤ n := by omega
      have wb : IntKind.i64.wrap ((b : Int) + 20) = ((b + 20 : Nat) : Int) := by rw [IntWalk.i64_in _ (by omega)]; simp
      have asc : Stb.Asc pl a b e := fun i j h1 h2 h3 => hM.out.asc HA.out i j (by rw [← hq.out]; exact h1) h2 (by omega)
      have I1 := Lib.hid (INS.out wr e a b hS hC hmv asc (by omega) hlt)
      have NX : Hid (∀ e2, Stb.Mv a b e e2 → Stb.Srt key pl a b e2 → Stb.IB key pl 20 n (q + 1) d e2) := fun e2 m2 s2 => by
        have e1 : (q + 1) * 20 = b := by have := hq.out; omega
        exact hM.out.step (by omega) (by rw [e1, ← hq.out]; exact m2) (by rw [e1, ← hq.out]; exact s2)
      have DD : Hid (n + 20 - (b + 20) < n + 20 - b) := by rw [Hid]; omega
      clear hM hmv hS hC asc INS SYM HA hb1
      go_wp2_with (go_at_call 114; refine I1.out.mono ?_; rintro e' w2 ⟨rfl, ⟨e2, hS2, hm2, hs2⟩, hC2⟩)
      exact ⟨⟨b, b + 20, q + 1, e2, by go_num, by go_num, by simp [Hid], by have := hq.out; have := hb.out; rw [Hid]; omega, hlt, hS2, HC.out.trans hC2, NX.out e2 hm2 hs2⟩, by simp [intOf]; omega⟩
    · have tb : ¬ (b : Int) ≤ n := by omega
      have asc : Stb.Asc pl a n e := fun i j h1 h2 h3 => hM.out.asc HA.out i j (by rw [← hq.out]; exact h1) h2 (by omega)
      have I1 := Lib.hid (INS.out wr e a n hS hC hmv asc han (Nat.le_refl _))
      have NX : Hid (∀ e2, Stb.Mv a n e e2 → Stb.Srt key pl a n e2 → Stb.SB key pl 20 n d e2) := fun e2 m2 s2 => by
        have e0 := hq.out
        exact hM.out.fin (by omega) (by omega) (by rw [← e0]; exact m2) (by rw [← e0]; exact s2)
      clear hM hmv hS hC asc INS HA hb1
      go_wp2_with (go_at_call 114; refine I1.out.mono ?_; rintro e' w2 ⟨rfl, ⟨e2, hS2, hm2, hs2⟩, hC2⟩)
      have SB0 := Lib.hid (NX.out e2 hm2 hs2)
      have HC2 := Lib.hid (HC.out.trans hC2)
      clear NX hm2 hs2 hC2 I1 HC hb hq han tb hlt
      go_wp2_with fail
      go_loopw [6, 7, 8, 9] (fun sv _ _ _ wr => ∃ (s : Nat) (e : Nat → Int × Int), sv = .int .i64 s ∧ 20 ≤ s ∧ s ≤ n + n + 20 ∧ SpF wr g n e ∧ Only g w wr ∧ Hid (Stb.SB key pl s n d e)) (fun sv _ _ _ _ => n - (intOf sv).toNat)
      case atStart => exact ⟨20, e2, rfl, by omega, by omega, hS2, HC2.out, SB0.out⟩
      case round =>
        obtain ⟨s, e3, rfl, hs20, hsn, hS3, hC3, hB⟩ := hrel
        clear hS2 HC2 SB0
        by_cases hl : s < n
        · have tl : (s : Int) < n := by omega
          have w2s : IntKind.i64.wrap (2 * (s : Int)) = ((2 * s : Nat) : Int) := by rw [IntWalk.i64_in _ (by omega)]; simp
          have ws2 : IntKind.i64.wrap ((s : Int) * 2) = ((2 * s : Nat) : Int) := by rw [IntWalk.i64_in _ (by omega)]; simp; omega
          have MB0 := Lib.hid (Stb.MB.start hB.out)
          clear hB
          go_wp2_with fail
          go_loopw [7, 8] (fun av bv wr => ∃ (a b q : Nat) (e : Nat → Int × Int), av = .int .i64 a ∧ bv = .int .i64 b ∧ Hid (b = a + 2 * s) ∧ Hid (a = q * (2 * s)) ∧ a ≤ n ∧ SpF wr g n e ∧ Only g w wr ∧ Hid (Stb.MB key pl s n q d e)) (fun _ bv _ => n + 2 * s - (intOf bv).toNat)
          case atStart => exact ⟨0, 2 * s, 0, e3, rfl, by go_num, by simp [Hid], by simp [Hid], Nat.zero_le _, hS3, hC3, MB0.out⟩
          case round =>
            obtain ⟨a, b, q, e, rfl, rfl, hb, hq, han, hS, hC, hM⟩ := hrel
            clear hS3 hC3 MB0
            have HC := Lib.hid hC
            have hb1 := hb.out
            have e1 : (q + 1) * (2 * s) = b := by rw [Stb.mulS, ← hq.out, hb1]
            have wm : IntKind.i64.wrap ((a : Int) + s) = ((a + s : Nat) : Int) := by rw [IntWalk.i64_in _ (by omega)]; simp
            by_cases hlt : b ≤ n
            · have tb : (b : Int) ≤ n := by omega
              have wb : IntKind.i64.wrap ((b : Int) + ((2 * s : Nat) : Int)) = ((b + 2 * s : Nat) : Int) := by rw [IntWalk.i64_in _ (by omega)]; simp
              obtain ⟨p1, p2, p3⟩ := hM.out.parts hlt (by omega)
              rw [← hq.out] at p1 p2 p3
              rw [Nat.min_eq_right (by omega)] at p1
              have I1 := Lib.hid (SYM.out wr e a (a + s) b hS hC hM.out.mv p1 p2 p3 (by omega) (by omega) hlt)
              have NX : Hid (∀ e2, Stb.Mv a b e e2 → Stb.Srt key pl a b e2 → Stb.MB key pl s n (q + 1) d e2) := fun e2 m2 s2 => by
                have e0 := hq.out
                exact hM.out.step (by omega) (by rw [e1, ← e0]; exact m2) (by rw [e1, ← e0]; exact s2)
              have HQ : Hid (b = (q + 1) * (2 * s)) := e1.symm
              clear hM hS hC p1 p2 p3 e1 hq hb1
              go_wp2_with (go_at_call 115; refine I1.out.mono ?_; rintro e' w2 ⟨rfl, ⟨e2, hS2, hm2, hs2⟩, hC2⟩)
              exact ⟨⟨b, b + 2 * s, q + 1, e2, by go_num, by go_num, by simp [Hid], HQ, hlt, hS2, HC.out.trans hC2, NX.out e2 hm2 hs2⟩, by simp [intOf]; omega⟩
            · have tb : ¬ (b : Int) ≤ n := by omega
              obtain ⟨p1, p2, p3⟩ := hM.out.parts (b := n) (Nat.le_refl _) (by omega)
              rw [← hq.out] at p1 p2 p3
              have NX : Hid (∀ e2, Stb.Mv a n e e2 → Stb.Srt key pl a n e2 → Stb.SB key pl (2 * s) n d e2) := fun e2 m2 s2 => by
                have e0 := hq.out
                exact hM.out.fin (by omega) (by rw [← e0]; exact m2) (by rw [← e0]; exact s2)
              by_cases hm : a + s < n
              · have tm : ((a + s : Nat) : Int) < n := by omega
                rw [Nat.min_eq_right (by omega)] at p1
                have I1 := Lib.hid (SYM.out wr e a (a + s) n hS hC hM.out.mv p1 p2 p3 (by omega) hm (Nat.le_refl _))
                clear hM hS hC p1 p2 p3 e1 hq hb1
                go_wp2_with (go_at_call 115; refine I1.out.mono ?_; rintro e' w2 ⟨rfl, ⟨e2, hS2, hm2, hs2⟩, hC2⟩)
                go_wp2_with fail
                exact ⟨⟨2 * s, e2, by go_num, by omega, by omega, hS2, HC.out.trans hC2, NX.out e2 hm2 hs2⟩, by simp [intOf]; omega⟩
              · have tm : ¬ ((a + s : Nat) : Int) < n := by omega
                rw [Nat.min_eq_left (by omega)] at p1
                have SBX := Lib.hid (NX.out e (Stb.Mv.refl _ _ _) p1)
                have HS := Lib.hid hS
                clear hM hS hC p1 p2 p3 e1 hq NX hb1
                go_wp2_with fail
                exact ⟨⟨2 * s, e, by go_num, by omega, by omega, HS.out, HC.out, SBX⟩, by simp [intOf]; omega⟩
        · have tl : ¬ (s : Int) < n := by omega
          have FIN : Hid ((∃ d', SpF wr g n d' ∧ Stb.Mv 0 n d d' ∧ Stb.Srt key pl 0 n d') ∧ Only g w wr) := ⟨⟨e3, hS3, hB.out.mv, hB.out.fin (by omega)⟩, hC3⟩
          clear hB hS3 hC3
          go_wp2_with fail
          go_end0
          exact ⟨rfl, FIN.out⟩
theorem sortStable_any {K : FuncId} {caps : Array Value} {Inv : World → Prop} {El : Int × Int → Prop} {cm : Int × Int → Int × Int → Int} {key pl : Int × Int → Int} (g n c : Nat) (d : Nat → Int × Int) (w : World) (ck : CmpOk g K caps Inv El cm key) (h : SpF w g n d) (hI : Inv w) (hE : ∀ i, i < n → El (d i)) (hA : Stb.Asc pl 0 n d) (hn : n ≤ 1000000) :
    Calls Try.prog 71 #[.slice (some ⟨g, 0, none⟩) n c, .func (.func K) #[] caps] w fun e' w' => e' = .returned (.tuple #[]) ∧ (∃ d', SpF w' g n d' ∧ Stb.Mv 0 n d d' ∧ Stb.Srt key pl 0 n d') ∧ Only g w w' := by
  have S1 := Lib.hid (stable_any g n c d w ck h hI hE hA hn)
  clear ck h hI hE hA
  go_enter Try.func71, Try.ntmps71
  go_wp2_with (go_at_call 97; refine S1.out.mono ?_; rintro e' w2 ⟨rfl, h2, hC2⟩)
  go_end0
  exact ⟨rfl, h2, hC2⟩
end Go.Proofs.Ytkamkjbllmgifaa
