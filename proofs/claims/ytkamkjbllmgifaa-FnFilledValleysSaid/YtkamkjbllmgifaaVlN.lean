/- Valleys: how the program holds them in memory. -/
import Derived.Test.YtkamkjbllmgifaaVlC
namespace Go.Proofs.Ytkamkjbllmgifaa
open Go.RowKit
open Vl

def spt (W k : Nat) : Int × Int := (((k % W : Nat) : Int), ((k / W : Nat) : Int))
theorem spt_in {W H k : Nat} (hW : 0 < W) (hk : k < W * H) : inG W H (spt W k) = true := by
  rw [inG_iff]
  have h1 := pl_row hk
  have h2 := Nat.mod_lt k hW
  simp only [spt]
  generalize k % W = a at *
  generalize k / W = b at *
  omega
theorem plc_spt {W k : Nat} : plc W (spt W k) = k := by
  simp only [plc, spt, Int.toNat_natCast]
  rw [Nat.mul_comm]
  exact Nat.div_add_mod k W
theorem spt_plc {W H : Nat} {q : Int × Int} (h : inG W H q = true) : spt W (plc W q) = q := by
  obtain ⟨a, b, rfl, h1, h2, h3⟩ := inG_nats h
  rw [h3, spt, plM h1, plD h1]
theorem spt_inj {W i j : Nat} (h : spt W i = spt W j) : i = j := by
  have := congrArg (plc W) h
  rwa [plc_spt, plc_spt] at this
theorem spt_ok {W H k : Nat} (hW : 0 < W) (hW2 : W ≤ 16) (hH : H ≤ 16) (hk : k < W * H) : spOk (spt W k) := by
  have h1 := pl_row hk
  have h2 := Nat.mod_lt k hW
  simp only [spOk, spt]
  generalize k % W = a at *
  generalize k / W = b at *
  omega
def ofM (W H : Nat) (B : Nat → Nat) (own : Nat → Option Nat) : Int × Int → Option Value := fun q => if inG W H q then (own (plc W q)).map fun v => ptV (B v) else none
theorem ofM_put {W H : Nat} (B : Nat → Nat) (own : Nat → Option Nat) {k v : Nat} (hW : 0 < W) (hk : k < W * H) : putF (ofM W H B own) (spt W k) (ptV (B v)) = ofM W H B fun p => if p = k then some v else own p := by
  funext q
  unfold putF ofM
  by_cases e : q = spt W k
  · subst e
    rw [if_pos rfl, if_pos (spt_in hW hk), plc_spt]
    show some (ptV (B v)) = Option.map _ (if k = k then some v else own k)
    rw [if_pos rfl]
    rfl
  · rw [if_neg e]
    by_cases c : inG W H q = true
    · rw [if_pos c, if_pos c]
      have : plc W q ≠ k := fun h => e (by rw [← spt_plc c, h])
      show Option.map _ _ = Option.map _ (if plc W q = k then some v else own (plc W q))
      rw [if_neg this]
    · rw [if_neg c, if_neg c]
theorem rkM_put {B : Nat → Nat} {n b : Nat} (hb : ∀ v, v < n → B v ≠ b) : putF (rkM B n) b (.int .i64 ((n : Nat) : Int)) = rkM (updF B n b) (n + 1) := by
  funext a
  unfold putF rkM
  rw [List.range_succ, List.find?_append]
  have e1 : ∀ x : Nat, ((List.range n).find? fun v => updF B n b v == x) = ((List.range n).find? fun v => B v == x) := fun x => by
    have G : ∀ l : List Nat, (∀ v ∈ l, v < n) → (l.find? fun v => updF B n b v == x) = l.find? fun v => B v == x := by
      intro l
      induction l with
      | nil => intro _; rfl
      | cons y r ih =>
        intro h
        have hy : y ≠ n := by have := h y List.mem_cons_self; omega
        rw [List.find?_cons, List.find?_cons, updF_ne _ _ hy, ih (fun v hv => h v (List.mem_cons_of_mem _ hv))]
    exact G _ (fun v hv => List.mem_range.1 hv)
  rw [e1]
  by_cases e : a = b
  · subst e
    rw [if_pos rfl]
    have : ((List.range n).find? fun v => B v == a) = none := by
      rw [List.find?_eq_none]
      intro v hv
      simpa using hb v (List.mem_range.1 hv)
    rw [this]
    simp [updF_self]
  · rw [if_neg e]
    have : ([n].find? fun v => updF B n b v == a) = none := by simp [updF_self]; exact fun h => e h.symm
    rw [this, Option.or_none]

theorem valPT : ElemT 63 65 (.pointer none) 1 8 := ⟨Try.underlying63, by kernel_rfl, rfl, by decide, by decide⟩
theorem Chg.of_rowV {w w' : World} {row : Option Nat} (h : w.grownBy w' row) : Chg (fun b => row = some b) w w' :=
  ⟨h.os, h.tape, h.output, h.size, fun k hk hs => h.block k hk (fun e => hs e.symm)⟩
theorem Chg.of_setV (w : World) (b i : Nat) (u : Value) : Chg (fun k => k = b) w (w.setCell ⟨b, i, none⟩ u) := (Chg.refl (fun k => k = b) w).store (p := ⟨b, i, none⟩) rfl u
theorem SpF.chg {S : Nat → Prop} {w w' : World} {g n : Nat} {d : Nat → Int × Int} (h : SpF w g n d) (hc : Chg S w w') (hs : ¬ S g) : SpF w' g n d :=
  ⟨Nat.lt_of_lt_of_le h.lt hc.size, fun i hi => ⟨(hc.cell (p := ⟨g, i * 2, none⟩) h.lt hs).trans (h.cell i hi).1, (hc.cell (p := ⟨g, i * 2 + 1, none⟩) h.lt hs).trans (h.cell i hi).2⟩, fun k => (World.frozen?_of_block (a := ⟨g, k, none⟩) (hc.block g h.lt hs)).trans (h.free k)⟩
/-- The blocks in which the program's valleys lie. -/
def IVb (MO MR og go gb RB n : Nat) (B : Nat → Nat) (P : Nat → Value) (b : Nat) : Prop := b = MO ∨ b = MR ∨ b = og ∨ b = go ∨ b = gb ∨ b = RB ∨ ∃ v, v < n ∧ (B v = b ∨ (P v).ownBlock = some b)
/-- The program's valleys, the order of the pixels, and the variables that are boxed. -/
structure IV (b0 W H p N go gb RB MO MR : Nat) (d : Nat → Int × Int) (og oc : Nat) (B : Nat → Nat) (P : Nat → Value) (Lp : Nat → List Nat) (st : VS) (w : World) : Prop where
  mo : MapF spV spOk w MO (ofM W H B st.own)
  mr : MapF ptV (fun _ => True) w MR (rkM B st.n)
  out : w.ownsRow b0 65 1 (.slice (some ⟨og, 0, none⟩) st.n oc) st.n ((List.range st.n).map fun v => ptV (B v))
  val : ∀ v, v < st.n → Blk w (B v) 68 #[.int .i64 (st.born v), .int .i64 ((st.place v : Nat) : Int), .int .i64 (st.dies v), P v]
  set : ∀ v, v < st.n → w.ownsRow b0 39 2 (P v) (Lp v).length (spL ((Lp v).map (spt W)))
  mem : ∀ v, v < st.n → (Lp v).Nodup ∧ ∀ q, q ∈ Lp v ↔ st.mem v q = true
  inj : ∀ u v, u < st.n → v < st.n → B u = B v → u = v
  ap : ∀ u v, u < st.n → v < st.n → u ≠ v → ∀ g, (P u).ownBlock = some g → (P v).ownBlock ≠ some g
  ord : SpF w go N d
  gbx : Blk w gb 76 #[.pointer (some ⟨p, 0, none⟩)]
  rbx : Blk w RB 105 #[.map (some MR)]
  sep : MO ≠ MR ∧ MO ≠ go ∧ MR ≠ go ∧ og ≠ go ∧ ∀ v, v < st.n → B v ≠ go ∧ (P v).ownBlock ≠ some go
  sep2 : gb ≠ go ∧ RB ≠ go
  lo : b0 ≤ MO ∧ b0 ≤ MR ∧ b0 ≤ og ∧ b0 ≤ go ∧ b0 ≤ gb ∧ b0 ≤ RB ∧ ∀ v, v < st.n → b0 ≤ B v
section
variable {b0 W H p N go gb RB MO MR og oc : Nat} {d : Nat → Int × Int} {B : Nat → Nat} {P : Nat → Value} {Lp : Nat → List Nat} {st : VS} {w w' : World}
theorem IV.lt (h : IV b0 W H p N go gb RB MO MR d og oc B P Lp st w) (b : Nat) (hb : IVb MO MR og go gb RB st.n B P b) : b0 ≤ b ∧ b < w.heap.size := by
  obtain ⟨l1, l2, l3, l4, l5, l6, l7⟩ := h.lo
  rcases hb with rfl | rfl | rfl | rfl | rfl | rfl | ⟨v, hv, e | e⟩
  · exact ⟨l1, h.mo.lt⟩
  · exact ⟨l2, h.mr.lt⟩
  · exact ⟨l3, (h.out.lt b rfl).2⟩
  · exact ⟨l4, h.ord.lt⟩
  · exact ⟨l5, h.gbx.lt⟩
  · exact ⟨l6, h.rbx.lt⟩
  · subst e; exact ⟨l7 v hv, (h.val v hv).lt⟩
  · exact (h.set v hv).lt b e
theorem IV.chg {S : Nat → Prop} (h : IV b0 W H p N go gb RB MO MR d og oc B P Lp st w) (hc : Chg S w w') (hS : ∀ b, S b → ¬ IVb MO MR og go gb RB st.n B P b) : IV b0 W H p N go gb RB MO MR d og oc B P Lp st w' where
  mo := h.mo.of_block (hc.block MO h.mo.lt fun s => hS _ s (.inl rfl))
  mr := h.mr.of_block (hc.block MR h.mr.lt fun s => hS _ s (.inr (.inl rfl)))
  out := hc.own h.out (fun g e s => hS g s (.inr (.inr (.inl (Option.some.inj e).symm))))
  val v hv := hc.blk (h.val v hv) (fun s => hS _ s (.inr (.inr (.inr (.inr (.inr (.inr ⟨v, hv, .inl rfl⟩)))))))
  set v hv := hc.own (h.set v hv) (fun g e s => hS g s (.inr (.inr (.inr (.inr (.inr (.inr ⟨v, hv, .inr e⟩)))))))
  mem := h.mem
  inj := h.inj
  ap := h.ap
  ord := h.ord.chg hc (fun s => hS _ s (.inr (.inr (.inr (.inl rfl)))))
  gbx := hc.blk h.gbx (fun s => hS _ s (.inr (.inr (.inr (.inr (.inl rfl))))))
  rbx := hc.blk h.rbx (fun s => hS _ s (.inr (.inr (.inr (.inr (.inr (.inl rfl)))))))
  sep := h.sep
  sep2 := h.sep2
  lo := h.lo
theorem IV.ext (h : IV b0 W H p N go gb RB MO MR d og oc B P Lp st w) (hb : Below w.heap.size w w') : IV b0 W H p N go gb RB MO MR d og oc B P Lp st w' :=
  h.chg (Chg.of_below hb) (fun b s hb => by have := (h.lt b hb).2; omega)
theorem IV.cel (h : IV b0 W H p N go gb RB MO MR d og oc B P Lp st w) : ∀ a x, rkM B st.n a = some x → IsCel w a := by
  intro a x hx
  unfold rkM at hx
  rw [Option.map_eq_some_iff] at hx
  obtain ⟨k, hk, -⟩ := hx
  have h1 := List.find?_some hk
  have h2 := List.mem_range.1 (List.mem_of_find?_eq_some hk)
  have : B k = a := by simpa using h1
  rw [← this]; exact ⟨_, _, h.val k h2⟩
/-- Blocks of different kinds are apart. -/
theorem IV.kinds (h : IV b0 W H p N go gb RB MO MR d og oc B P Lp st w) :
    (∀ v, v < st.n → B v ≠ MO ∧ B v ≠ MR ∧ B v ≠ og ∧ B v ≠ go ∧ B v ≠ gb ∧ B v ≠ RB ∧ ∀ u, u < st.n → (P u).ownBlock ≠ some (B v)) ∧
    (∀ v, v < st.n → ∀ g, (P v).ownBlock = some g → g ≠ MO ∧ g ≠ MR ∧ g ≠ og ∧ g ≠ go ∧ g ≠ gb ∧ g ≠ RB) ∧
    (og ≠ MO ∧ og ≠ MR ∧ og ≠ go ∧ og ≠ gb ∧ og ≠ RB) ∧ (gb ≠ MO ∧ gb ≠ MR ∧ gb ≠ RB ∧ gb ≠ go) ∧ (RB ≠ MO ∧ RB ≠ MR ∧ RB ≠ go) := by
  have mapNe : ∀ (M b : Nat) (e : TypeId) (cs : Array Value) (κ : Type) (kv : κ → Value) (good : κ → Prop) (f : κ → Option Value), MapF kv good w M f → w.heap[b]? = some (.cells cs e (0, 0)) → b ≠ M := by
    intro M b e cs κ kv good f hm hb eq
    obtain ⟨es, cl, h1, _⟩ := hm
    rw [← eq, hb] at h1
    cases h1
  have ownMap : ∀ (M : Nat) (κ : Type) (kv : κ → Value) (good : κ → Prop) (f : κ → Option Value), MapF kv good w M f → ∀ {base : Nat} {e : TypeId} {size n : Nat} {v : Value} {xs : List Value}, w.ownsRow base e size v n xs → ∀ g, v.ownBlock = some g → g ≠ M := by
    intro M κ kv good f hm base e size n v xs ho g hg
    rcases ho.2 with ⟨e1, _⟩ | ⟨g', cap, cur, e1, _, hb, _⟩
    · subst e1; cases hg
    · subst e1
      have : g' = g := Option.some.inj hg
      subst this
      exact mapNe M _ _ _ _ _ _ _ hm hb
  refine ⟨fun v hv => ⟨mapNe _ _ _ _ _ _ _ _ h.mo (h.val v hv), mapNe _ _ _ _ _ _ _ _ h.mr (h.val v hv), ?_, (h.sep.2.2.2.2 v hv).1, (h.val v hv).ne h.gbx (by decide), (h.val v hv).ne h.rbx (by decide), fun u hu e => own_blk_ne (h.set u hu) (h.val v hv) (by decide) e⟩, fun v hv g hg => ⟨ownMap _ _ _ _ _ h.mo (h.set v hv) g hg, ownMap _ _ _ _ _ h.mr (h.set v hv) g hg, ?_, ?_, ?_, ?_⟩, ⟨ownMap _ _ _ _ _ h.mo h.out og rfl, ownMap _ _ _ _ _ h.mr h.out og rfl, h.sep.2.2.2.1, ?_, ?_⟩, ⟨mapNe _ _ _ _ _ _ _ _ h.mo h.gbx, mapNe _ _ _ _ _ _ _ _ h.mr h.gbx, h.gbx.ne h.rbx (by decide), ?_⟩, mapNe _ _ _ _ _ _ _ _ h.mo h.rbx, mapNe _ _ _ _ _ _ _ _ h.mr h.rbx, ?_⟩
  · exact fun e => own_blk_ne h.out (h.val v hv) (by decide) (by rw [e]; rfl)
  · exact fun e => own_own_ne (h.set v hv) h.out (by decide) (g := og) (by rw [← e]; exact hg) rfl
  · exact fun e => (h.sep.2.2.2.2 v hv).2 (by rw [← e]; exact hg)
  · exact fun e => own_blk_ne (h.set v hv) h.gbx (by decide) (by rw [← e]; exact hg)
  · exact fun e => own_blk_ne (h.set v hv) h.rbx (by decide) (by rw [← e]; exact hg)
  · exact fun e => own_blk_ne h.out h.gbx (by decide) (by rw [← e]; rfl)
  · exact fun e => own_blk_ne h.out h.rbx (by decide) (by rw [← e]; rfl)
  · exact h.sep2.1
  · exact h.sep2.2
theorem IV.putO (h : IV b0 W H p N go gb RB MO MR d og oc B P Lp st w) {k v : Nat} (hW : 0 < W) (hk : k < W * H) (hm : MapF spV spOk w' MO (putF (ofM W H B st.own) (spt W k) (ptV (B v)))) (hg : w.grownBy w' (some MO)) :
    IV b0 W H p N go gb RB MO MR d og oc B P Lp { st with own := fun q => if q = k then some v else st.own q } w' := by
  obtain ⟨k1, k2, k3, k4, k5⟩ := h.kinds
  have hc := Chg.of_rowV hg
  have no : ∀ b, b ≠ MO → ¬ (some MO = some b) := fun b hb e => hb (Option.some.inj e).symm
  rw [ofM_put B st.own hW hk] at hm
  exact ⟨hm, h.mr.of_block (hc.block MR h.mr.lt (no _ h.sep.1.symm)), hc.own h.out (fun g e => no _ (by have := Option.some.inj e; rw [← this]; exact k3.1)), fun u hu => hc.blk (h.val u hu) (no _ (k1 u hu).1), fun u hu => hc.own (h.set u hu) (fun g e => no _ (k2 u hu g e).1), h.mem, h.inj, h.ap,
    h.ord.chg hc (no _ h.sep.2.1.symm), hc.blk h.gbx (no _ k4.1), hc.blk h.rbx (no _ k5.1), h.sep, h.sep2, h.lo⟩
theorem IV.dies (h : IV b0 W H p N go gb RB MO MR d og oc B P Lp st w) {v : Nat} (hv : v < st.n) (L : Int) :
    IV b0 W H p N go gb RB MO MR d og oc B P Lp { st with dies := fun u => if u = v then L else st.dies u } (w.setCell ⟨B v, 2, none⟩ (.int .i64 L)) := by
  obtain ⟨k1, k2, k3, k4, k5⟩ := h.kinds
  obtain ⟨q1, q2, q3, q4, q5, q6, q7⟩ := k1 v hv
  have hc := Chg.of_setV w (B v) 2 (.int .i64 L)
  refine ⟨h.mo.of_block (hc.block MO h.mo.lt q1.symm), h.mr.of_block (hc.block MR h.mr.lt q2.symm), hc.own h.out (fun g e => by have := Option.some.inj e; rw [← this]; exact q3.symm), fun u hu => ?_, fun u hu => hc.own (h.set u hu) (fun g e e2 => q7 u hu (by rw [← e2]; exact e)), h.mem, h.inj, h.ap,
    h.ord.chg hc q4.symm, hc.blk h.gbx q5.symm, hc.blk h.rbx q6.symm, h.sep, h.sep2, h.lo⟩
  by_cases e : u = v
  · subst e
    have := (h.val u hu).store 2 (.int .i64 L)
    simpa using this
  · have := hc.blk (h.val u hu) (fun e2 => e (h.inj u v hu hv e2))
    simpa [e] using this
theorem IV.join (h : IV b0 W H p N go gb RB MO MR d og oc B P Lp st w) {s : Nat} (hs : s < st.n) {l : List Nat} {g M cap : Nat}
    (hl : (Lp s ++ l).length = M) (ho : w'.ownsRow b0 39 2 (.slice (some ⟨g, 0, none⟩) M cap) M (spL ((Lp s ++ l).map (spt W)))) (hg : w.grownBy w' (P s).ownBlock) (hat : (P s).ownBlock = some g ∨ g = w.heap.size)
    (mem' : Nat → Nat → Bool) (hm : ∀ v, v < st.n → (updF Lp s (Lp s ++ l) v).Nodup ∧ ∀ q, q ∈ updF Lp s (Lp s ++ l) v ↔ mem' v q = true) :
    IV b0 W H p N go gb RB MO MR d og oc B (updF P s (.slice (some ⟨g, 0, none⟩) M cap)) (updF Lp s (Lp s ++ l)) { st with mem := mem' } (w'.setCell ⟨B s, 3, none⟩ (.slice (some ⟨g, 0, none⟩) M cap)) := by
  obtain ⟨k1, k2, k3, k4, k5⟩ := h.kinds
  obtain ⟨q1, q2, q3, q4, q5, q6, q7⟩ := k1 s hs
  have hge : ∀ b, b < w.heap.size → (P s).ownBlock ≠ some b → b ≠ g := fun b hb hne e => by
    rcases hat with e2 | e2
    · exact hne (by rw [e]; exact e2)
    · omega
  have c1 := Chg.of_rowV hg
  have c2 := Chg.of_setV w' (B s) 3 (.slice (some ⟨g, 0, none⟩) M cap)
  have no : ∀ b, (P s).ownBlock ≠ some b → ¬ ((P s).ownBlock = some b) := fun b h => h
  have bv1 : ∀ u, u < st.n → Blk w' (B u) 68 #[.int .i64 (st.born u), .int .i64 ((st.place u : Nat) : Int), .int .i64 (st.dies u), P u] := fun u hu => c1.blk (h.val u hu) (fun e => (k1 u hu).2.2.2.2.2.2 s hs e)
  have hgB : ∀ u, u < st.n → B u ≠ g := fun u hu => hge _ (h.val u hu).lt ((k1 u hu).2.2.2.2.2.2 s hs)
  refine ⟨(h.mo.of_block (c1.block MO h.mo.lt fun e => (k2 s hs MO e).1 rfl)).of_block (c2.block MO (Nat.lt_of_lt_of_le h.mo.lt c1.size) q1.symm), (h.mr.of_block (c1.block MR h.mr.lt fun e => (k2 s hs MR e).2.1 rfl)).of_block (c2.block MR (Nat.lt_of_lt_of_le h.mr.lt c1.size) q2.symm),
    c2.own (c1.own h.out (fun x e e2 => by have := Option.some.inj e; subst this; exact (k2 s hs og e2).2.2.1 rfl)) (fun x e => by have := Option.some.inj e; rw [← this]; exact q3.symm), fun u hu => ?_, fun u hu => ?_, hm, h.inj, fun u v hu hv huv x e1 e2 => ?_,
    (h.ord.chg c1 (fun e => (k2 s hs go e).2.2.2.1 rfl)).chg c2 q4.symm, c2.blk (c1.blk h.gbx (fun e => (k2 s hs gb e).2.2.2.2.1 rfl)) q5.symm, c2.blk (c1.blk h.rbx (fun e => (k2 s hs RB e).2.2.2.2.2 rfl)) q6.symm, ⟨h.sep.1, h.sep.2.1, h.sep.2.2.1, h.sep.2.2.2.1, fun u hu => ⟨(h.sep.2.2.2.2 u hu).1, ?_⟩⟩, h.sep2, h.lo⟩
  · by_cases e : u = s
    · subst e
      rw [updF_self]
      have := (bv1 u hu).store 3 (.slice (some ⟨g, 0, none⟩) M cap)
      simpa using this
    · rw [updF_ne _ _ e]
      exact c2.blk (bv1 u hu) (fun e2 => e (h.inj u s hu hs e2))
  · by_cases e : u = s
    · subst e
      rw [updF_self, updF_self, hl]
      exact c2.own ho (fun x e e2 => by have := Option.some.inj e; exact hgB u hs (by rw [← e2]; exact this.symm))
    · rw [updF_ne _ _ e, updF_ne _ _ e]
      exact c2.own (c1.own (h.set u hu) (fun x e1 e2 => h.ap u s hu hs e x e1 e2)) (fun x e1 e2 => q7 u hu (by rw [← e2]; exact e1))
  · by_cases e : u = s
    · subst e
      rw [updF_self] at e1
      rw [updF_ne _ _ (Ne.symm huv)] at e2
      have : g = x := Option.some.inj e1
      subst this
      have hlt := ((h.set v hv).lt g e2).2
      exact hge g hlt (fun e3 => h.ap u v hu hv huv g e3 e2) rfl
    · rw [updF_ne _ _ e] at e1
      by_cases e3 : v = s
      · subst e3
        rw [updF_self] at e2
        have : g = x := Option.some.inj e2
        subst this
        have hlt := ((h.set u hu).lt g e1).2
        exact hge g hlt (fun e4 => h.ap u v hu hv huv g e1 e4) rfl
      · rw [updF_ne _ _ e3] at e2
        exact h.ap u v hu hv huv x e1 e2
  · by_cases e : u = s
    · subst e
      rw [updF_self]
      exact fun e2 => hge go h.ord.lt (h.sep.2.2.2.2 u hs).2 (Option.some.inj e2).symm
    · rw [updF_ne _ _ e]; exact (h.sep.2.2.2.2 u hu).2
theorem IV.congr (h : IV b0 W H p N go gb RB MO MR d og oc B P Lp st w) {st' : VS} (e1 : st'.n = st.n) (e2 : ∀ v, v < st.n → st'.born v = st.born v ∧ st'.place v = st.place v ∧ st'.dies v = st.dies v) (e3 : ∀ q, q < W * H → st'.own q = st.own q) (e4 : ∀ v, v < st.n → ∀ q, st'.mem v q = true ↔ st.mem v q = true) :
    IV b0 W H p N go gb RB MO MR d og oc B P Lp st' w := by
  have eo : ofM W H B st'.own = ofM W H B st.own := by
    funext q
    unfold ofM
    by_cases c : inG W H q = true
    · rw [if_pos c, if_pos c, e3 _ (plc_lt c)]
    · rw [if_neg c, if_neg c]
  refine ⟨by rw [eo]; exact h.mo, by rw [e1]; exact h.mr, by rw [e1]; exact h.out, fun v hv => ?_, by rw [e1]; exact h.set, ?_, by rw [e1]; exact h.inj, by rw [e1]; exact h.ap, h.ord, h.gbx, h.rbx, by rw [e1]; exact h.sep, h.sep2, by rw [e1]; exact h.lo⟩
  · rw [e1] at hv
    obtain ⟨a, b, c⟩ := e2 v hv
    rw [a, b, c]; exact h.val v hv
  · rw [e1]; exact fun v hv => ⟨(h.mem v hv).1, fun q => ((h.mem v hv).2 q).trans (e4 v hv q).symm⟩
/-- A valley is born: its block lies, its rank is stored, it is appended. -/
theorem IV.born {w2 w3 w4 : World} (h : IV b0 W H p N go gb RB MO MR d og oc B P Lp st w) {b g cap i : Nat} {L : Int} (hb0 : b0 ≤ b) (hB : Blk w b 68 #[.int .i64 L, .int .i64 i, .int .i64 (-1), .slice none 0 0]) (hnb : ∀ v, v < st.n → B v ≠ b) (hgo : b ≠ go) (hown : ∀ q v, st.own q = some v → v < st.n)
    (hm : MapF ptV (fun _ => True) w2 MR (putF (rkM B st.n) b (.int .i64 ((st.n : Nat) : Int)))) (hg2 : w.grownBy w2 (some MR)) (hx : Below w2.heap.size w2 w3)
    (ho : w4.ownsRow b0 65 1 (.slice (some ⟨g, 0, none⟩) (st.n + 1) cap) (st.n + 1) (((List.range st.n).map fun v => ptV (B v)) ++ [ptV b])) (hg4 : w3.grownBy w4 (some og)) (hat : some og = some g ∨ g = w3.heap.size) :
    IV b0 W H p N go gb RB MO MR d g cap (updF B st.n b) (updF P st.n (.slice none 0 0)) (updF Lp st.n []) (grow L i st) w4 := by
  obtain ⟨k1, k2, k3, k4, k5⟩ := h.kinds
  have c2 := Chg.of_rowV hg2
  have c4 := Chg.of_rowV hg4
  have noR : ∀ x, x ≠ MR → ¬ (some MR = some x) := fun x hx e => hx (Option.some.inj e).symm
  have noO : ∀ x, x ≠ og → ¬ (some og = some x) := fun x hx e => hx (Option.some.inj e).symm
  have z2 := c2.size
  have z3 := hx.size
  have hge : ∀ x, x < w3.heap.size → x ≠ og → x ≠ g := fun x hx hne e => by
    rcases hat with e2 | e2
    · exact hne (e.trans (Option.some.inj e2).symm)
    · omega
  have bMR : b ≠ MR := by
    obtain ⟨es, cl, h1, _⟩ := h.mr
    intro e
    have : w.heap[b]? = some (.cells _ _ (0, 0)) := hB
    rw [e, h1] at this
    cases this
  have bog : b ≠ og := fun e => own_blk_ne h.out hB (by decide) (by rw [e]; rfl)
  have T : ∀ {x : Nat} {t : TypeId} {cs : Array Value}, Blk w x t cs → x ≠ MR → x ≠ og → Blk w4 x t cs := fun hx1 h1 h2 => by
    have a1 := c2.blk hx1 (noR _ h1)
    have a2 := a1.under hx a1.lt
    exact c4.blk a2 (noO _ h2)
  have fn : (grow L i st).n = st.n + 1 := rfl
  have eB : ∀ v, v < st.n → updF B st.n b v = B v := fun v hv => updF_ne _ _ (by omega)
  have eP : ∀ v, v < st.n → updF P st.n (.slice none 0 0) v = P v := fun v hv => updF_ne _ _ (by omega)
  refine ⟨?_, ?_, ?_, fun v hv => ?_, fun v hv => ?_, fun v hv => ?_, fun u v hu hv e => ?_, fun u v hu hv huv x e1 e2 => ?_, ?_, T h.gbx k4.2.1 k3.2.2.2.1.symm, T h.rbx k5.2.1 k3.2.2.2.2.symm, ⟨h.sep.1, h.sep.2.1, h.sep.2.2.1, hge go (by have := h.ord.lt; omega) h.sep.2.2.2.1.symm |>.symm, fun v hv => ?_⟩, h.sep2, ⟨h.lo.1, h.lo.2.1, ?_, h.lo.2.2.2.1, h.lo.2.2.2.2.1, h.lo.2.2.2.2.2.1, fun v hv => ?_⟩⟩
  · have m2 := h.mo.of_block (c2.block MO h.mo.lt (noR _ h.sep.1))
    have m4 := (m2.ext hx).of_block (c4.block MO (m2.ext hx).lt (noO _ k3.1.symm))
    have : ofM W H (updF B st.n b) (grow L i st).own = ofM W H B st.own := by
      funext q
      unfold ofM
      by_cases c : inG W H q = true
      · rw [if_pos c, if_pos c]
        show (st.own (plc W q)).map _ = (st.own (plc W q)).map _
        cases ho : st.own (plc W q) with
        | none => rfl
        | some v => simp only [Option.map_some]; rw [eB v (hown _ v ho)]
      · rw [if_neg c, if_neg c]
    rw [this]; exact m4
  · rw [rkM_put hnb] at hm
    exact (hm.ext hx).of_block (c4.block MR (hm.ext hx).lt (noO _ k3.2.1.symm))
  · rw [fn, List.range_succ, List.map_append]
    rw [show ((List.range st.n).map fun v => ptV (updF B st.n b v)) = (List.range st.n).map fun v => ptV (B v) from List.map_congr_left fun v hv => by rw [eB v (List.mem_range.1 hv)]]
    simpa [updF_self] using ho
  · rw [fn] at hv
    by_cases e : v = st.n
    · subst e
      rw [updF_self, updF_self]
      have := T hB bMR bog
      simpa [grow] using this
    · have hv2 : v < st.n := by omega
      rw [eB v hv2, eP v hv2]
      have := T (h.val v hv2) (k1 v hv2).2.1 (k1 v hv2).2.2.1
      simpa [grow, e] using this
  · rw [fn] at hv
    by_cases e : v = st.n
    · subst e
      rw [updF_self, updF_self]
      exact World.ownsRow_nil _ _ _ _
    · have hv2 : v < st.n := by omega
      rw [eP v hv2, updF_ne _ _ e]
      have o2 := c2.own (h.set v hv2) (fun x ex => noR _ (k2 v hv2 x ex).2.1)
      exact c4.own (own_ext hx o2) (fun x ex => noO _ (k2 v hv2 x ex).2.2.1)
  · rw [fn] at hv
    by_cases e : v = st.n
    · subst e
      rw [updF_self]
      exact ⟨List.nodup_nil, fun q => by simp [grow]⟩
    · rw [updF_ne _ _ e]
      refine ⟨(h.mem v (by omega)).1, fun q => ?_⟩
      rw [(h.mem v (by omega)).2 q]
      simp [grow, e]
  · rw [fn] at hu hv
    by_cases e1 : u = st.n
    · by_cases e2 : v = st.n
      · rw [e1, e2]
      · rw [e1, updF_self, updF_ne _ _ e2] at e
        exact absurd e.symm (hnb v (by omega))
    · by_cases e2 : v = st.n
      · rw [e2, updF_self, updF_ne _ _ e1] at e
        exact absurd e (hnb u (by omega))
      · rw [updF_ne _ _ e1, updF_ne _ _ e2] at e
        exact h.inj u v (by omega) (by omega) e
  · rw [fn] at hu hv
    by_cases q1 : u = st.n
    · subst q1; rw [updF_self] at e1; cases e1
    · by_cases q2 : v = st.n
      · subst q2; rw [updF_self] at e2; cases e2
      · rw [updF_ne _ _ q1] at e1
        rw [updF_ne _ _ q2] at e2
        exact h.ap u v (by omega) (by omega) huv x e1 e2
  · have o2 := h.ord.chg c2 (noR _ h.sep.2.2.1.symm)
    exact (o2.ext hx).chg c4 (noO _ h.sep.2.2.2.1.symm)
  · rw [fn] at hv
    by_cases e : v = st.n
    · subst e; rw [updF_self, updF_self]; exact ⟨hgo, by simp [Value.ownBlock]⟩
    · rw [eB v (by omega), eP v (by omega)]; exact h.sep.2.2.2.2 v (by omega)
  · exact (ho.lt g rfl).1
  · rw [fn] at hv
    by_cases e : v = st.n
    · subst e; rw [updF_self]; exact hb0
    · rw [eB v (by omega)]; exact h.lo.2.2.2.2.2.2 v (by omega)
end
end Go.Proofs.Ytkamkjbllmgifaa
