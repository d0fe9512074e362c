/- The least height between two pixels: the plain part of its law. -/
import Derived.Test.YtajepoopicoodaaWtrP
import Derived.Test.YtajepoopicoodaaWayM
namespace Go.Proofs.Ytajepoopicoodaa
open Go.RowKit

section
variable {W n : Nat} {G : Nat → Int}
theorem Way.trans {a b c : Nat} {h k : Int} (w : Way W n G (fun i => i = a) h b) (v : Way W n G (fun i => i = b) k c) : Way W n G (fun i => i = a) (max h k) c := by
  induction v with
  | start i hi hF hG => subst hF; exact w.mono (by omega)
  | step q s _ ha hG ih => exact .step q s ih ha (by omega)
theorem Way.rev {a b : Nat} {h : Int} (w : Way W n G (fun i => i = a) h b) : Way W n G (fun i => i = b) h a := by
  induction w with
  | start i hi hF hG => subst hF; exact .start i hi rfl hG
  | step q s wq ha hG ih =>
    have v : Way W n G (fun i => i = s) h q := .step s q (.start s ha.2.1 rfl hG) ha.symm wq.le
    have := v.trans ih
    rwa [show max h h = h by omega] at this
end

/-- A letter's byte is the letter. -/
theorem letK_letB (k : Nat) (hk : k < 4) : letK (letB k) = (k : Int) := by
  have e : k = 0 ∨ k = 1 ∨ k = 2 ∨ k = 3 := by omega
  rcases e with rfl | rfl | rfl | rfl <;> rfl
theorem letK_range (b : UInt8) : letK b = -1 ∨ ∃ k : Nat, k < 4 ∧ letK b = (k : Int) ∧ b = letB k := by
  rw [letK_eq]
  split
  · rename_i h; exact .inr ⟨0, by omega, rfl, h⟩
  split
  · rename_i h; exact .inr ⟨1, by omega, rfl, h⟩
  split
  · rename_i h; exact .inr ⟨2, by omega, rfl, h⟩
  split
  · rename_i h; exact .inr ⟨3, by omega, rfl, h⟩
  exact .inl rfl
theorem letB_lt {j k : Nat} (hj : j < k) (hk : k < 4) : letB j < letB k := by
  have e : k = 1 ∨ k = 2 ∨ k = 3 := by omega
  have e2 : j = 0 ∨ j = 1 ∨ j = 2 := by omega
  rcases e with rfl | rfl | rfl <;> rcases e2 with rfl | rfl | rfl <;> first | omega | decide

section
variable {W H : Nat} {G : Nat → Int} {P : Int} {b : Int × Int} {f : Int × Int → Option Nat}
/-- The way as steps: where it is after each. -/
theorem ewFold_cons (bs : List UInt8) (p : Int × Int) (h : Int) (k : Nat) (hk : k < 4) (hin : inG W H (stepP p k) = true) :
    (letB k :: bs).foldl (ewS G W H) (some (p, h)) = bs.foldl (ewS G W H) (some (stepP p k, max h (G (plc W (stepP p k))))) := by
  rw [List.foldl_cons, ewS]
  simp only [letK_letB k hk]
  rw [if_neg (by omega), if_pos hin]
/-- The told way leads to the end and is nowhere higher than the pass. -/
theorem dirs_end (hF : Far W H G P b f) : ∀ d p h, f p = some d → ∃ h2, ((dirs f d p).map letB).foldl (ewS G W H) (some (p, h)) = some (b, h2) ∧ h ≤ h2 ∧ (h ≤ P → h2 ≤ P) := by
  intro d
  induction d with
  | zero =>
    intro p h hp
    refine ⟨h, ?_, Int.le_refl _, fun h => h⟩
    rw [(hF.zero p).1 hp]
    rfl
  | succ d ih =>
    intro p h hp
    have h1 := hF.dir hp
    have h2 := hF.low _ _ h1
    rw [dirs, List.map_cons, ewFold_cons _ _ _ _ (dirV_lt f p d) h2.1]
    obtain ⟨h3, e1, e2, e3⟩ := ih _ (max h (G (plc W (stepP p (dirV f p d))))) h1
    exact ⟨h3, e1, by omega, fun hh => e3 (by have := h2.2.1; omega)⟩
theorem stepP_nb (p : Int × Int) (k : Nat) : stepP p k ∈ nb4 p := by
  obtain ⟨x, y⟩ := p
  unfold nb4 arL stepP
  split
  · simp
  split
  · simp
  split
  · simp
  · simp
/-- A way over low numbers is no shorter than the distance; one of that length comes no earlier. -/
theorem own_far (hF : Far W H G P b f) : ∀ (bs : List UInt8) p h h2, inG W H p = true → G (plc W p) ≤ P → bs.foldl (ewS G W H) (some (p, h)) = some (b, h2) → h2 ≤ P →
    ∃ d, f p = some d ∧ d ≤ bs.length ∧ (d = bs.length → Op.bytesLess ((dirs f d p).map letB) bs = true ∨ (dirs f d p).map letB = bs) := by
  intro bs
  induction bs with
  | nil =>
    intro p h h2 _ _ e _
    simp only [List.foldl_nil, Option.some.injEq, Prod.mk.injEq] at e
    exact ⟨0, by rw [e.1]; exact (hF.zero b).2 rfl, Nat.le_refl _, fun _ => .inr rfl⟩
  | cons c bs ih =>
    intro p h h2 hp hG e hP
    rw [List.foldl_cons, ewS] at e
    rcases letK_range c with hc | ⟨k, hk, hc, rfl⟩
    · rw [hc, if_pos (by omega), ewFold_none] at e; cases e
    · rw [hc, if_neg (by omega)] at e
      by_cases hin : inG W H (stepP p k) = true
      · rw [if_pos hin] at e
        have hmono : ∀ (bs : List UInt8) (q : Int × Int) (h : Int) r h3, bs.foldl (ewS G W H) (some (q, h)) = some (r, h3) → h ≤ h3 := by
          intro bs
          induction bs with
          | nil => intro q h r h3 e; simp only [List.foldl_nil, Option.some.injEq, Prod.mk.injEq] at e; omega
          | cons c bs ih2 =>
            intro q h r h3 e
            rw [List.foldl_cons, ewS] at e
            split at e
            · rw [ewFold_none] at e; cases e
            · split at e
              · have := ih2 _ _ _ _ e; omega
              · rw [ewFold_none] at e; cases e
        have hl := hmono _ _ _ _ _ e
        have hlow : G (plc W (stepP p k)) ≤ P := by omega
        obtain ⟨d, hd, hdl, hbest⟩ := ih _ _ _ hin hlow e hP
        obtain ⟨d2, hd2, hd3⟩ := hF.next _ p d hd (nb4_symm (stepP_nb p k)) hp hG
        refine ⟨d2, hd2, by rw [List.length_cons]; omega, fun hlen => ?_⟩
        rw [List.length_cons] at hlen
        obtain rfl : d = bs.length := by omega
        obtain rfl : d2 = bs.length + 1 := by omega
        have hb := hbest rfl
        have hk2 := dirV_lt f p bs.length
        rw [dirs, List.map_cons]
        have hle : dirV f p bs.length ≤ k := by
          have e4 : k = 0 ∨ k = 1 ∨ k = 2 ∨ k = 3 := by omega
          unfold dirV
          rcases e4 with rfl | rfl | rfl | rfl
          · rw [if_pos (by simpa using hd)]; omega
          · split
            · omega
            · rw [if_pos (by simpa using hd)]; omega
          · split
            · omega
            · split
              · omega
              · rw [if_pos (by simpa using hd)]; omega
          · split
            · omega
            · split
              · omega
              · split <;> omega
        by_cases hkk : dirV f p bs.length = k
        · rw [hkk]
          rcases hb with hb | hb
          · left
            rw [Op.bytesLess]
            simp [hb]
          · right
            rw [hb]
        · left
          rw [Op.bytesLess]
          have := letB_lt (show dirV f p bs.length < k by omega) hk
          simp [this]
      · rw [if_neg hin, ewFold_none] at e; cases e
end

theorem ewTo_way {W H : Nat} {G : Nat → Int} : ∀ (bs : List UInt8) (p r : Int × Int) (h h2 : Int) (a : Nat), inG W H p = true → Way W (W * H) G (fun i => i = a) h (plc W p) → bs.foldl (ewS G W H) (some (p, h)) = some (r, h2) →
    inG W H r = true ∧ Way W (W * H) G (fun i => i = a) h2 (plc W r) := by
  intro bs
  induction bs with
  | nil =>
    intro p r h h2 a hp w e
    simp only [List.foldl_nil, Option.some.injEq, Prod.mk.injEq] at e
    obtain ⟨rfl, rfl⟩ := e
    exact ⟨hp, w⟩
  | cons c bs ih =>
    intro p r h h2 a hp w e
    rw [List.foldl_cons, ewS] at e
    split at e
    · rw [ewFold_none] at e; cases e
    · split at e
      · rename_i hin
        exact ih _ _ _ _ _ hin (.step _ _ (w.mono (by omega)) (stepP_adj hp hin).symm (by omega)) e
      · rw [ewFold_none] at e; cases e

/-- The search comes to its end. -/
theorem far_last {W H : Nat} {G : Nat → Int} {P : Int} {b : Int × Int} (hb : okW W H G P b = true) : FInv W H G P b (farS W H G P b (W * H)) (farS W H G P b (W * H)).Q.length := by
  have key : ∀ i, (∀ j, j < i → j < (farS W H G P b j).Q.length) ∨ ∃ j, j < i ∧ ¬ j < (farS W H G P b j).Q.length ∧ FInv W H G P b (farS W H G P b j) j := by
    intro i
    induction i with
    | zero => exact .inl (fun j h => absurd h (Nat.not_lt_zero _))
    | succ i ih =>
      rcases ih with h | ⟨j, h1, h2, h3⟩
      · have hi := farS_all hb i h
        by_cases e : i < (farS W H G P b i).Q.length
        · refine .inl (fun j hj => ?_)
          by_cases ej : j = i
          · subst ej; exact e
          · exact h j (by omega)
        · exact .inr ⟨i, by omega, e, hi⟩
      · exact .inr ⟨j, by omega, h2, h3⟩
  rcases key (W * H + 1) with h | ⟨j, h1, h2, h3⟩
  · have h4 := farS_all hb (W * H) (fun j hj => h j (by omega))
    have h5 := h (W * H) (by omega)
    have h6 := farS_len h4
    omega
  · exact (farS_end h3 h2).2
/-- All that the law asks of the numbers. -/
structure Pss (G : Nat → Int) (W H : Nat) (P : Nat → Nat → Int) : Prop where
  val : ∀ a1 a2 b1 b2 : Nat, a1 < W → a2 < H → b1 < W → b2 < H → passV (gO G W H) a1 a2 b1 b2 = P (a2 * W + a1) (b2 * W + b1) ∧ passOk (gO G W H) a1 a2 b1 b2 = true
  sym : ∀ i j, i < W * H → j < W * H → P i j = P j i
  tri : ∀ i c j, i < W * H → c < W * H → j < W * H → P i j ≤ max (P i c) (P c j)
  bd : ∀ i j, i < W * H → j < W * H → 0 ≤ P i j ∧ P i j ≤ 99
  own : ∀ (s : ByteArray) (x y : Nat) q h, x < W → y < H → ewV (gO G W H) x y s = some (q, h) → inG W H q = true ∧ P (y * W + x) (plc W q) ≤ h
  way : ∀ a1 a2 b1 b2 : Nat, a1 < W → a2 < H → b1 < W → b2 < H → (wayV (gO G W H) a1 a2 b1 b2).size ≤ 256 ∧ ewV (gO G W H) a1 a2 (wayV (gO G W H) a1 a2 b1 b2) = some (((b1 : Int), (b2 : Int)), P (a2 * W + a1) (b2 * W + b1))
  best : ∀ (s : ByteArray) (a1 a2 b1 b2 : Nat) h, a1 < W → a2 < H → b1 < W → b2 < H → ewV (gO G W H) a1 a2 s = some (((b1 : Int), (b2 : Int)), h) → h ≤ P (a2 * W + a1) (b2 * W + b1) →
    (wayV (gO G W H) a1 a2 b1 b2).size < s.size ∨ ((wayV (gO G W H) a1 a2 b1 b2).size = s.size ∧ (Op.bytesLess (wayV (gO G W H) a1 a2 b1 b2).toList s.toList = true ∨ (wayV (gO G W H) a1 a2 b1 b2).toList = s.toList))
theorem ewTo_full (G : Nat → Int) (W H : Nat) (bs : List UInt8) (p : Int × Int) : ewTo G W H bs p bs.length = bs.foldl (ewS G W H) (some (p, G (plc W p))) := by
  rw [ewTo, List.take_length]
theorem pss_of (G : Nat → Int) {W H : Nat} (hW0 : 0 < W) (hW : W ≤ 16) (hH0 : 0 < H) (hH : H ≤ 16) (hG : ∀ i, i < W * H → 0 ≤ G i ∧ G i ≤ 99) : ∃ P, Pss G W H P := by
  have g : GreyN (gO G W H) W H (W * H) := ⟨gO_ok hW0 hW hH0 hH hG, tabW_gO _ hH0, gO_length _ _ _, rfl⟩
  have hnl : W * H ≤ 256 := Nat.le_trans (Nat.mul_le_mul hW hH) (by decide)
  have EX : ∀ i, ∃ O, IsPass W (W * H) G (fun j => j = i) O := fun i => IsPass.ex (fun i hi => (hG i hi).1)
  have plx : ∀ x y : Nat, plc W ((x : Int), (y : Int)) = y * W + x := fun x y => by simp [plc]
  have isin : ∀ x y : Nat, x < W → y < H → inR (gO G W H) (x : Int) (y : Int) = true := fun x y hx hy => by
    rw [inR, g.ok, g.w, g.h, Bool.true_and, inG_iff]; simp; omega
  have ing : ∀ x y : Nat, x < W → y < H → inG W H ((x : Int), (y : Int)) = true := fun x y hx hy => by rw [inG_iff]; simp; omega
  have pok : ∀ a1 a2 b1 b2 : Nat, a1 < W → a2 < H → b1 < W → b2 < H → passOk (gO G W H) a1 a2 b1 b2 = true := fun a1 a2 b1 b2 h1 h2 h3 h4 => by rw [passOk, isin _ _ h1 h2, isin _ _ h3 h4]; rfl
  have hP : ∀ i, IsPass W (W * H) G (fun j => j = i) (fun j => (EX i).choose j) := fun i => (EX i).choose_spec
  have FG : ∀ i, i < W * H → gF (gO G W H) W i = G i := fun i hi => gF_gO G hi hW0
  have xy : ∀ i, i < W * H → ∃ x y : Nat, x < W ∧ y < H ∧ i = y * W + x := fun i hi => by
    obtain ⟨e, hm⟩ := pl_eq i hW0
    exact ⟨i % W, i / W, hm, pl_row hi, e⟩
  have PW : ∀ i j, i < W * H → j < W * H → Way W (W * H) G (fun k => k = i) ((EX i).choose j) j ∧ 0 ≤ (EX i).choose j ∧ (EX i).choose j ≤ 99 := fun i j hi hj => by
    obtain ⟨x, y, hx, hy, rfl⟩ := xy i hi
    obtain ⟨u, v, hu, hv, rfl⟩ := xy j hj
    exact pass_way hG hx hy hu hv (hP _)
  have val : ∀ a1 a2 b1 b2 : Nat, a1 < W → a2 < H → b1 < W → b2 < H → passV (gO G W H) a1 a2 b1 b2 = (EX (a2 * W + a1)).choose (b2 * W + b1) := fun a1 a2 b1 b2 h1 h2 h3 h4 => by
    rw [passV, pok _ _ _ _ h1 h2 h3 h4, if_pos rfl, passAt, pR, pR, g.w, g.h, plx, plx]
    exact passL_get ((hP _).congrG (fun i hi => (FG i hi).symm)) (pl_lt h3 h4)
  -- the search's distances over the numbers of the rows
  have farW : ∀ a1 a2 b1 b2 : Nat, a1 < W → a2 < H → b1 < W → b2 < H → Far W H (gF (gO G W H) W) ((EX (a2 * W + a1)).choose (b2 * W + b1)) ((b1 : Int), (b2 : Int)) (farF W H (gF (gO G W H) W) ((EX (a2 * W + a1)).choose (b2 * W + b1)) ((b1 : Int), (b2 : Int))) ∧
      ∃ d, farF W H (gF (gO G W H) W) ((EX (a2 * W + a1)).choose (b2 * W + b1)) ((b1 : Int), (b2 : Int)) ((a1 : Int), (a2 : Int)) = some d ∧ d < W * H := fun a1 a2 b1 b2 h1 h2 h3 h4 => by
    have w := (PW _ _ (pl_lt h1 h2) (pl_lt h3 h4)).1
    have hok : okW W H (gF (gO G W H) W) ((EX (a2 * W + a1)).choose (b2 * W + b1)) ((b1 : Int), (b2 : Int)) = true := by
      rw [okW, ing _ _ h3 h4, plx, FG _ (pl_lt h3 h4)]
      simpa using w.le
    have hF := far_of (far_last hok) hok
    refine ⟨hF, ?_⟩
    have wg : Way W (W * H) (gF (gO G W H) W) (fun i => i = plc W ((a1 : Int), (a2 : Int))) ((EX (a2 * W + a1)).choose (b2 * W + b1)) (plc W ((b1 : Int), (b2 : Int))) := by
      rw [plx, plx]
      have := (hP (a2 * W + a1)).congrG (fun i hi => (FG i hi).symm)
      exact (this.sound _ (pl_lt h3 h4)).2.2 (by have := (PW _ _ (pl_lt h1 h2) (pl_lt h3 h4)).2.2; omega)
    obtain ⟨d, hd⟩ := hF.reach (ing _ _ h1 h2) (ing _ _ h3 h4) wg
    exact ⟨d, hd, (hF.low _ _ hd).2.2⟩
  have wv : ∀ a1 a2 b1 b2 : Nat, a1 < W → a2 < H → b1 < W → b2 < H → ∃ d, farF W H (gF (gO G W H) W) ((EX (a2 * W + a1)).choose (b2 * W + b1)) ((b1 : Int), (b2 : Int)) ((a1 : Int), (a2 : Int)) = some d ∧ d < W * H ∧
      wayV (gO G W H) a1 a2 b1 b2 = ByteArray.mk ((dirs (farF W H (gF (gO G W H) W) ((EX (a2 * W + a1)).choose (b2 * W + b1)) ((b1 : Int), (b2 : Int))) d ((a1 : Int), (a2 : Int))).map letB).toArray := fun a1 a2 b1 b2 h1 h2 h3 h4 => by
    obtain ⟨_, d, hd, hdl⟩ := farW a1 a2 b1 b2 h1 h2 h3 h4
    refine ⟨d, hd, hdl, ?_⟩
    rw [wayV, pok _ _ _ _ h1 h2 h3 h4, if_pos rfl, val _ _ _ _ h1 h2 h3 h4, g.w, g.h]
    simp only [hd, Option.getD_some]
  have ownW : ∀ (s : ByteArray) (x y : Nat) q h, x < W → y < H → ewV (gO G W H) x y s = some (q, h) → s.data.toList.foldl (ewS (gF (gO G W H) W) W H) (some (((x : Int), (y : Int)), gF (gO G W H) W (plc W ((x : Int), (y : Int))))) = some (q, h) := fun s x y q h hx hy e => by
    rw [ewV] at e
    split at e
    · rwa [g.w, g.h, ewTo_full] at e
    · cases e
  have own : ∀ (s : ByteArray) (x y : Nat) q h, x < W → y < H → ewV (gO G W H) x y s = some (q, h) → inG W H q = true ∧ (EX (y * W + x)).choose (plc W q) ≤ h := fun s x y q h hx hy e => by
    have w0 : Way W (W * H) (gF (gO G W H) W) (fun i => i = y * W + x) (gF (gO G W H) W (plc W ((x : Int), (y : Int)))) (plc W ((x : Int), (y : Int))) := by
      rw [plx]; exact .start _ (pl_lt hx hy) rfl (Int.le_refl _)
    obtain ⟨i1, w⟩ := ewTo_way _ _ _ _ _ _ (ing _ _ hx hy) w0 (ownW s x y q h hx hy e)
    exact ⟨i1, ((hP (y * W + x)).congrG (fun i hi => (FG i hi).symm)).least _ _ w⟩
  have way : ∀ a1 a2 b1 b2 : Nat, a1 < W → a2 < H → b1 < W → b2 < H → (wayV (gO G W H) a1 a2 b1 b2).size ≤ 256 ∧ ewV (gO G W H) a1 a2 (wayV (gO G W H) a1 a2 b1 b2) = some (((b1 : Int), (b2 : Int)), (EX (a2 * W + a1)).choose (b2 * W + b1)) := fun a1 a2 b1 b2 h1 h2 h3 h4 => by
    obtain ⟨d, hd, hdl, e⟩ := wv a1 a2 b1 b2 h1 h2 h3 h4
    have hF := (farW a1 a2 b1 b2 h1 h2 h3 h4).1
    have hs : (wayV (gO G W H) a1 a2 b1 b2).size = d := by rw [e]; show (List.toArray _).size = d; rw [List.size_toArray, List.length_map, dirs_len]
    obtain ⟨h2', e1, e2, e3⟩ := dirs_end hF d _ (gF (gO G W H) W (plc W ((a1 : Int), (a2 : Int)))) hd
    have e4 : ewV (gO G W H) a1 a2 (wayV (gO G W H) a1 a2 b1 b2) = some (((b1 : Int), (b2 : Int)), h2') := by
      rw [ewV, ewOk, isin _ _ h1 h2, if_pos (by simp; omega), g.w, g.h, ewTo_full, e]
      exact e1
    have o := (own _ _ _ _ _ h1 h2 e4).2
    rw [plx] at o
    have u := e3 ((hF.low _ _ hd).2.1)
    have : h2' = (EX (a2 * W + a1)).choose (b2 * W + b1) := by omega
    exact ⟨by omega, by rw [e4, this]⟩
  refine ⟨fun i j => (EX i).choose j, fun a1 a2 b1 b2 h1 h2 h3 h4 => ⟨val _ _ _ _ h1 h2 h3 h4, pok _ _ _ _ h1 h2 h3 h4⟩, fun i j hi hj => ?_, fun i c j hi hc hj => ?_, fun i j hi hj => (PW i j hi hj).2, own, way, ?_⟩
  · have h1 := (hP j).least _ _ (PW i j hi hj).1.rev
    have h2 := (hP i).least _ _ (PW j i hj hi).1.rev
    exact Int.le_antisymm h2 h1
  · exact (hP i).least _ _ ((PW i c hi hc).1.trans (PW c j hc hj).1)
  · intro s a1 a2 b1 b2 h h1 h2 h3 h4 e hh
    obtain ⟨d, hd, hdl, ew⟩ := wv a1 a2 b1 b2 h1 h2 h3 h4
    have hF := (farW a1 a2 b1 b2 h1 h2 h3 h4).1
    obtain ⟨d2, hd2, hl, hb⟩ := own_far hF s.data.toList _ _ h (ing _ _ h1 h2) ((hF.low _ _ hd).2.1) (ownW s _ _ _ _ h1 h2 e) hh
    obtain rfl : d = d2 := by rw [hd] at hd2; exact Option.some.inj hd2
    have hs : (wayV (gO G W H) a1 a2 b1 b2).size = d := by rw [ew]; show (List.toArray _).size = d; rw [List.size_toArray, List.length_map, dirs_len]
    have hs2 : s.size = s.data.toList.length := by simp
    by_cases he : d = s.data.toList.length
    · right
      refine ⟨by omega, ?_⟩
      have e1 : (wayV (gO G W H) a1 a2 b1 b2).toList = (dirs (farF W H (gF (gO G W H) W) ((EX (a2 * W + a1)).choose (b2 * W + b1)) ((b1 : Int), (b2 : Int))) d ((a1 : Int), (a2 : Int))).map letB := by rw [ByteArray.toList_eq, ew]
      rw [e1, ByteArray.toList_eq]
      exact hb he
    · left; omega
end Go.Proofs.Ytajepoopicoodaa
