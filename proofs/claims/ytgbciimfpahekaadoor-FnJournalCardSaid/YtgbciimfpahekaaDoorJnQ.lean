/- A desk that is drawn: the first name; set at any desk of its own. A drawn desk, and drawn lines for a desk. A desk that an input chooses, and its lines. Journals that are cut or bent, plain. -/
import Derived.Test.YtgbciimfpahekaaDoorLnS
import Derived.Test.YtgbciimfpahekaaDoorJnI
namespace Go.Proofs.YtgbciimfpahekaaDoor
open Go.RowKit Go.Shelf

/-- append of nothing, at a step of a region that draws its order. -/
theorem step_appN {T e : TypeId} {z : Value} {size bytes : Nat} (E : ElemT T e z size bytes) {w : World} {ops : Array Oper} {o : Oper} {a : Act} {K : Act → World → Prop} {Q : Exit → Act → World → Prop} {F : Prop} (hgd : o.guard = none) (s x : Operand)
    (ho : o.op = .call { callee := .builtin .append, args := #[s, x], argTypes := #[T, T] })
    (base : Nat) (v : Value) (n : Nat) (xs : List Value) (hs : a.eval s = v) (hown : w.ownsRow base e size v n xs) (hx : a.eval x = .slice none 0 0)
    (h : K (a.put o.dst v) w) :
    if Region.wanted o (yielded ops a.tmps) = true then Oper.wp Tryd.prog o a w K Q else F := by
  obtain ⟨i0, hi, hz0, hz1, hz2⟩ := info_parts E.info
  have hw : Region.wanted o (yielded ops a.tmps) = true := by simp [Region.wanted, hgd]
  rw [if_pos hw]
  have hrun := run_append_owned_none (P := Tryd.prog) (w := w) base T o.type e i0 size E.under hi v n xs hown
  unfold Oper.wp
  simp [execOp, ho, resolve, invoke, builtin, hs, hx, hrun, Result.andThen]
  exact h
theorem Src.under {B : Nat} {w w' : World} {s : Nat} {A : Option Addr} {n c : Nat} {l : List Int} {i base : Nat} (h : Src B w s A n c l i) (hb : Below base w w') (hs : s < base) : Src B w' s A n c l i := by
  obtain ⟨seed, h0, h1, hB⟩ := h.at_
  have hh := h.high
  refine ⟨⟨seed, h0, h1, hB.under hb hs⟩, ⟨h.bytes.1, h.bytes.2.1, fun hn => ?_⟩, h.low, h.high⟩
  obtain ⟨a, e, hlt, hc⟩ := h.bytes.2.2 hn
  have hab := h.low a e hn
  exact ⟨a, e, Nat.lt_of_lt_of_le hlt hb.size, fun i hi => (hb.cell (by rw [Addr.add_block]; omega)).trans (hc i hi)⟩
set_option maxRecDepth 100000 in
set_option maxHeartbeats 4000000 in
theorem dset0_any (base p : Nat) (name : ByteArray) (A : Option Addr) (H cc : Nat) (w : World) (h : Blk w p 37 #[.slice none 0 0, .slice none 0 0]) (hp : base ≤ p) (hb : base ≤ w.heap.size) (hk : nameOk name = true) (hz : name.size ≤ 1000000) :
    Calls Tryd.prog 52 #[.pointer (some ⟨p, 0, none⟩), .string name, .agg #[.slice A H cc], .bool true] w fun e w' => e = .returned (.string ⟨#[111, 107]⟩) ∧ Below base w w' ∧ ∃ g c g2 c2, DkO w' base p [name] [.slice A H cc] g c g2 c2 := by
  obtain ⟨w1, hw1⟩ : ∃ w1, w.alloc (.cells #[.slice A H cc] 77) = w1 := ⟨_, rfl⟩
  have B1 : Below w.heap.size w w1 := by rw [← hw1]; exact Ext.more (Ext.refl _) _
  have X1 : Blk w1 w.heap.size 77 #[.slice A H cc] := by rw [← hw1]; exact Blk.made _ _ _
  have P1 := h.under B1 h.lt
  have zp := h.lt
  have z1 : w1.heap.size = w.heap.size + 1 := by rw [← hw1]; simp
  have FD := Lib.hid (find_any p none 0 [] name w1 ⟨P1.lt, (P1.cell 0).trans rfl, fun h => by simp [strs] at h⟩ (by simp))
  have NK := Lib.hid (fun V => isNameS_any name V (by omega))
  rw [hk] at NK
  have HW1 := Lib.hid hw1
  clear hw1 h hk
  go_enter Tryd.func52, Tryd.ntmps52
  go_wp2_with fail
  simp only [HW1.out]
  refine FD.out.mono ?_
  rintro e w2 ⟨hf, rfl⟩
  rcases hf with ⟨k, hk, hkn, rfl⟩ | ⟨hnm, rfl⟩
  · exact absurd hk (by simp)
  · have Z1 := Lib.hid z1
    clear FD hnm z1
    have cp := P1.cell 0
    simp at cp
    go_wp2_with fail
    refine (NK.out _).mono ?_
    rintro e w3 ⟨rfl, rfl⟩
    go_wp2_with fail
    go_loop [10] (fun iv => iv = .int .i64 (0 : Nat)) (fun _ => 0)
    case atStart => rfl
    case round =>
      obtain rfl := hrel
      have O58 := Lib.hid (World.ownsRow_lit (e := 9) (size := 1) w1 #[] 0 (Nat.le_refl _) (by decide) rfl)
      have ca : (w1.alloc (.cells #[] 9)).cell? ⟨p, 0, none⟩ = some (.slice none 0 0) := by
        have := (P1.more (.cells #[] 9)).cell 0
        simpa using this
      go_upto_region 13 with (at_builtin; first
        | (refine wpList_appU strT (by rfl) _ _ (by rfl) w1.heap.size w1.heap.size 0 0 [] (by rfl) O58.out _ _ _ [] (by rfl) (by simp) (by simp) (by simp) (by simp) 0 [] rfl rfl (by omega) (by simp) ?_; intro g3 cap3 w8 own8 grow8)
        | (refine wpList_app strT (by rfl) _ _ (by rfl) w1.heap.size (.slice (some ⟨g3, 0, none⟩) 0 cap3) 0 [] (by rfl) (own8.alloc _) w8.heap.size #[.string name] (by rfl) (heap_alloc_new _ _) rfl (by simp [Value.oneCell']) (by omega) (le_alloc (Nat.le_trans (by simp) grow8.size)) ?_; intro g4 cap4 w9 own9 grow9 hat9 hlt9))
      have g8z := grow8.size
      have B8 : Below w1.heap.size w1 w9 := Below.grown ((Below.grown (Ext.more (Ext.refl w1) (.cells #[] 9)) grow8 (le_alloc (Nat.le_refl _)) (fun z hz => by have := Option.some.inj hz; omega)).trans (Below.mono (Ext.more (Ext.refl w8) _) (Nat.le_trans (by simp) g8z))) grow9 (le_alloc (Nat.le_trans (by simp) g8z)) (fun z hz => (own8.lt z hz).1)
      have P9 := P1.under B8 P1.lt
      have X9 := X1.under B8 X1.lt
      clear O58 ca g8z grow8 own8 grow9 hat9 hlt9
      have CP : ∀ o, (w9.alloc o).cell? ⟨p, 1, none⟩ = some (.slice none 0 0) := fun o => ((P9.more o).cell 1).trans rfl
      have CB : ∀ o, (w9.alloc o).cell? ⟨w.heap.size, 0, none⟩ = some (.slice A H cc) := fun o => ((X9.more o).cell 0).trans rfl
      have CP2 : ∀ o o2, ((w9.alloc o).alloc o2).cell? ⟨p, 1, none⟩ = some (.slice none 0 0) := fun o o2 => (((P9.more o).more o2).cell 1).trans rfl
      have CB2 : ∀ o o2, ((w9.alloc o).alloc o2).cell? ⟨w.heap.size, 0, none⟩ = some (.slice A H cc) := fun o o2 => (((X9.more o).more o2).cell 0).trans rfl
      have CP0 : w9.cell? ⟨p, 1, none⟩ = some (.slice none 0 0) := ((P9).cell 1).trans rfl
      have CB0 : w9.cell? ⟨w.heap.size, 0, none⟩ = some (.slice A H cc) := ((X9).cell 0).trans rfl
      go_cut [12] (fun s12 wx => ∃ g6 cap6, s12 = .slice (some ⟨g6, 0, none⟩) 1 cap6 ∧ wx.ownsRow w9.heap.size 77 1 (.slice (some ⟨g6, 0, none⟩) 1 cap6) 1 [.slice A H cc] ∧ Below w9.heap.size w9 wx)
      case first =>
        have O69 := Lib.hid (World.ownsRow_lit (e := 77) (size := 1) w9 #[] 0 (Nat.le_refl _) (by decide) rfl)
        have O78 : Hid (((w9.alloc (.cells #[.slice A H cc] 77)).alloc (.cells #[] 77)).ownsRow w9.heap.size 77 1 (.slice (some ⟨w9.heap.size + 1, 0, none⟩) 0 0) 0 []) := by
          have := World.ownsRow_lit (e := 77) (size := 1) (base := w9.heap.size) (w9.alloc (.cells #[.slice A H cc] 77)) #[] 0 (by simp) (by decide) rfl
          simpa [Hid] using this
        have N70 := Lib.hid (Blk.made (w9.alloc (.cells #[] 77)) 77 #[.slice A H cc])
        have N71 : Hid (Blk ((w9.alloc (.cells #[] 77)).alloc (.cells #[.slice A H cc] 77)) (w9.heap.size + 1) 77 #[.slice A H cc]) := by
          have := N70.out
          simpa [Hid] using this
        have N79 := Lib.hid ((Blk.made w9 77 #[.slice A H cc]).more (.cells #[] 77))
        go_region_law (first
          | (refine step_appN picT (by rfl) _ _ (by rfl) w9.heap.size (.slice (some ⟨w9.heap.size, 0, none⟩) 0 0) 0 [] (by rfl) O69.out (by rfl) ?_)
          | (refine step_appN picT (by rfl) _ _ (by rfl) w9.heap.size (.slice (some ⟨w9.heap.size, 0, none⟩) 0 0) 0 [] (by rfl) (O69.out.alloc _) (by rfl) ?_)
          | (refine step_appN picT (by rfl) _ _ (by rfl) w9.heap.size (.slice (some ⟨w9.heap.size + 1, 0, none⟩) 0 0) 0 [] (by rfl) O78.out (by rfl) ?_)
          | (refine step_app picT (by rfl) _ _ (by rfl) w9.heap.size (.slice (some ⟨w9.heap.size, 0, none⟩) 0 0) 0 [] (by rfl) (O69.out.alloc _) (w9.heap.size + 1) #[.slice A H cc] (by rfl) N71.out rfl (by simp [Value.oneCell']) (by omega) (le_alloc (le_alloc (Nat.le_refl _))) ?_; intro g6 cap6 w11 own11 grow11 hat11 hlt11; have B11 := Below.grown (Ext.draw (Ext.more (Ext.more (Ext.refl w9) _) _)) grow11 (le_alloc (le_alloc (Nat.le_refl _))) (fun z hz => by have := Option.some.inj (show some w9.heap.size = some z from hz); omega))
          | (refine step_app picT (by rfl) _ _ (by rfl) w9.heap.size (.slice (some ⟨w9.heap.size + 1, 0, none⟩) 0 0) 0 [] (by rfl) O78.out w9.heap.size #[.slice A H cc] (by rfl) N79.out rfl (by simp [Value.oneCell']) (by omega) (le_alloc (le_alloc (Nat.le_refl _))) ?_; intro g6 cap6 w11 own11 grow11 hat11 hlt11; have B11 := Below.grown (Ext.draw (Ext.more (Ext.more (Ext.refl w9) _) _)) grow11 (le_alloc (le_alloc (Nat.le_refl _))) (fun z hz => by have := Option.some.inj (show some (w9.heap.size + 1) = some z from hz); omega)))
        all_goals
          go_wp2_with fail
          go_meet
          exact ⟨g6, cap6, rfl, own11, B11⟩
      case rest =>
        obtain ⟨g6, cap6, rfl, O6, B6⟩ := hcut
        obtain ⟨w6, rfl⟩ : ∃ w6 : World, w6 = wc := ⟨_, rfl⟩
        have P6 := P9.under B6 P9.lt
        have N6 := own_ext B6 own9
        clear CP CB CP2 CB2 CP0 CB0
        have B6b : Below base w w6 := ((Below.mono B1 hb).trans (Below.mono B8 (by have := Z1.out; omega))).trans (Below.mono B6 (by have := B8.size; have := Z1.out; omega))
        have zb : base ≤ w1.heap.size := by have := Z1.out; omega
        have z6 : w1.heap.size ≤ w6.heap.size := Nat.le_trans B8.size B6.size
        have cp6 := P6.cell 0
        simp at cp6
        go_upto_region 15 with (at_builtin; refine wpList_appU strT (by rfl) _ _ (by rfl) w1.heap.size g4 1 cap4 [.string name] (by rfl) N6 _ _ _ [] (by rfl) (by simp) (by simp) (by simp) (by simp) 1 [.string name] rfl rfl (by omega) z6 ?_; intro g7 cap7 w7 own7 grow7; have P7 := Blk.by_grown P6 grow7 (fun e => own_blk_ne N6 P6 (by decide) (by rw [Option.some.inj e]; rfl)); have cp7 := P7.cell 0; have fp7 := P7.free 0; simp at cp7)
        have P8 : Blk (w7.setCell ⟨p, 0, none⟩ (.slice (some ⟨g7, 0, none⟩) 1 cap7)) p 37 #[.slice (some ⟨g7, 0, none⟩) 1 cap7, .slice none 0 0] := by
          have := P7.store 0 (.slice (some ⟨g7, 0, none⟩) 1 cap7)
          simpa using this
        have O7 := O6.kept grow7 (.inr (own_own_ne N6 O6 (by decide) rfl))
        have O8 := ownsRow_setCell_other O7 (a := ⟨p, 0, none⟩) (own_blk_ne O7 P7 (by decide)) (.slice (some ⟨g7, 0, none⟩) 1 cap7)
        have N8 := ownsRow_setCell_other own7 (a := ⟨p, 0, none⟩) (own_blk_ne own7 P7 (by decide)) (.slice (some ⟨g7, 0, none⟩) 1 cap7)
        have B7 := Below.grown B6b grow7 (by omega) (fun z hz => by have := (N6.lt z hz).1; omega)
        have B8b := Below.setCell B7 (p := ⟨p, 0, none⟩) hp (.slice (some ⟨g7, 0, none⟩) 1 cap7)
        have z8 : w9.heap.size ≤ (w7.setCell ⟨p, 0, none⟩ (.slice (some ⟨g7, 0, none⟩) 1 cap7)).heap.size := by
          have := B6.size
          have := grow7.size
          simp [World.setCell]
          omega
        clear P1 P6 P7 O6 O7 N6 own7 grow7 B7 B6b own9 cp6 cp7 fp7 cp P9 X9 X1
        generalize w7.setCell ⟨p, 0, none⟩ (.slice (some ⟨g7, 0, none⟩) 1 cap7) = w8 at *
        have cq8 := P8.cell 1
        simp at cq8
        go_wp2_with (at_builtin; refine wpList_appU picT (by rfl) _ _ (by rfl) w9.heap.size g6 1 cap6 [.slice A H cc] (by rfl) O8 _ _ _ [] (by rfl) (by simp) (by simp) (by simp) (by simp) 1 [.slice A H cc] rfl rfl (by omega) z8 ?_; intro g8 cap8 wA ownA growA; have PA := Blk.by_grown P8 growA (fun e => own_blk_ne O8 P8 (by decide) (by rw [Option.some.inj e]; rfl)); have cpA := PA.cell 1; have fpA := PA.free 1; simp at cpA)
        all_goals
          go_ret
          have zz : base ≤ w9.heap.size := Nat.le_trans zb B8.size
          refine ⟨rfl, Below.setCell (p := ⟨p, 1, none⟩) (Below.grown B8b growA (Nat.le_trans zz z8) (fun z hz => Nat.le_trans zz (O8.lt z hz).1)) hp _, g7, cap7, g8, cap8, ⟨?_, ?_, ?_, by simp, rfl, by simp [Value.oneCell']⟩⟩
          · have := PA.store 1 (.slice (some ⟨g8, 0, none⟩) 1 cap8)
            simpa using this
          · exact own_base (ownsRow_setCell_other (N8.kept growA (.inr (own_own_ne O8 N8 (by decide) rfl))) (a := ⟨p, 1, none⟩) (own_blk_ne (N8.kept growA (.inr (own_own_ne O8 N8 (by decide) rfl))) PA (by decide)) _) zb
          · exact own_base (ownsRow_setCell_other ownA (a := ⟨p, 1, none⟩) (own_blk_ne ownA PA (by decide)) _) zz
/-- A desk of its own, with names or without. -/
def DkS (w : World) (base p : Nat) (names : List ByteArray) : Prop :=
  (names = [] ∧ Blk w p 37 #[.slice none 0 0, .slice none 0 0]) ∨ ∃ pvs g c g2 c2, DkO w base p names pvs g c g2 c2
theorem dsetU_any (base p : Nat) (names : List ByteArray) (name : ByteArray) (A : Option Addr) (H cc : Nat) (w : World) (h : DkS w base p names) (hp : base ≤ p) (hb : base ≤ w.heap.size) (hn : names.length < 6) (hk : nameOk name = true) (hz : name.size ≤ 1000000) :
    Calls Tryd.prog 52 #[.pointer (some ⟨p, 0, none⟩), .string name, .agg #[.slice A H cc], .bool true] w fun e w' => e = .returned (.string ⟨#[111, 107]⟩) ∧ Below base w w' ∧ ∃ names', DkS w' base p names' ∧ names'.length ≤ names.length + 1 ∧ ∀ r ∈ names', r ∈ names ∨ r = name := by
  rcases h with ⟨rfl, h⟩ | ⟨pvs, g, c, g2, c2, h⟩
  · refine (dset0_any base p name A H cc w h hp hb hk hz).mono ?_
    rintro e w' ⟨rfl, hB, g, c, g2, c2, hD⟩
    exact ⟨rfl, hB, [name], .inr ⟨_, g, c, g2, c2, hD⟩, by simp, fun r hr => .inr (by simpa using hr)⟩
  · refine (dset_any base p names pvs g c g2 c2 name A H cc w h hp hb hn hk hz).mono ?_
    rintro e w' ⟨rfl, hB, names', pvs', g', c', g2', c2', hD, hr⟩
    refine ⟨rfl, hB, names', .inr ⟨_, g', c', g2', c2', hD⟩, ?_, ?_⟩
    · rcases hr with ⟨_, rfl, _⟩ | ⟨_, k, hk, rfl, _⟩
      · omega
      · simp; omega
    · rcases hr with ⟨_, rfl, _⟩ | ⟨_, k, hk, rfl, _⟩
      · exact fun r h => .inl h
      · intro r h
        rcases List.mem_append.1 h with h | h
        · exact .inl (List.mem_of_mem_take h)
        · rcases List.mem_cons.1 h with h | h
          · exact .inr h
          · exact .inl (List.mem_of_mem_drop h)
end Go.Proofs.YtgbciimfpahekaaDoor

namespace Go.Proofs.YtgbciimfpahekaaDoor
open Go.RowKit Go.Shelf

abbrev litD : List ByteArray := [⟨#[97]⟩, ⟨#[98]⟩, ⟨#[108, 101, 97, 102]⟩, ⟨#[120]⟩, ⟨#[102, 97, 114]⟩]
theorem litD_ok : ∀ r ∈ litD, PcOk 4 r ∧ nameOk r = true := by decide +kernel
theorem DkS.tm {w w' : World} {base p s : Nat} {names : List ByteArray} (h : DkS w base p names) (t : Tm s w w') (hs : s < base) (hp : base ≤ p) : DkS w' base p names := by
  have ne : ∀ b, base ≤ b → b < w.heap.size → ¬ (b = s ∨ w.heap.size ≤ b) := fun b h1 h2 => by rintro (e | e) <;> omega
  rcases h with ⟨e, h⟩ | ⟨pvs, g, c, g2, c2, h⟩
  · exact .inl ⟨e, Chg.blk t h (ne p hp h.lt)⟩
  · exact .inr ⟨pvs, g, c, g2, c2, Chg.blk t h.blk (ne p hp h.blk.lt), Chg.own t h.own (fun b hb => ne b (h.own.lt b hb).1 (h.own.lt b hb).2), Chg.own t h.pics (fun b hb => ne b (h.pics.lt b hb).1 (h.pics.lt b hb).2), h.few, h.pl, h.one⟩
/-- Where the drawing of a desk stands. -/
structure DrSt (B : Nat) (w0 : World) (s : Nat) (A : Option Addr) (n c : Nat) (l : List Int) (base p r : Nat) (names : List ByteArray) (i : Nat) (w : World) : Prop where
  src : ∃ j, j ≤ i ∧ Src B w s A n c l j
  dk : DkS w base p names
  res : Blk w r 37 #[.slice none 0 0, .slice none 0 0]
  tm : Tm s w0 w
  no : ∀ x ∈ names, PcOk 4 x ∧ nameOk x = true
  hs : s < base
  hp : base ≤ p
  hr : s < r ∧ r < base
section
variable {B : Nat} {w0 : World} {s : Nat} {A : Option Addr} {n c : Nat} {l : List Int} {base p r : Nat} {names : List ByteArray} {i : Nat} {w : World}
theorem DrSt.step (h : DrSt B w0 s A n c l base p r names i w) {w' : World} (t : Tm s w w') {i' : Nat} (hj : ∃ j, j ≤ i' ∧ Src B w' s A n c l j) : DrSt B w0 s A n c l base p r names i' w' :=
  ⟨hj, h.dk.tm t h.hs h.hp, Chg.blk t h.res (by have := h.res.lt; have := h.hr; rintro (e | e) <;> omega), h.tm.trans t, h.no, h.hs, h.hp, h.hr⟩
theorem DrSt.pick (h : DrSt B w0 s A n c l base p r names i w) (hn : n ≤ maxLen) (hi : i ≤ 10000) (m : Int) (hm : 1 ≤ m) (hm2 : m ≤ 200) :
    Calls Tryd.prog 33 #[.pointer (some ⟨s, 0, none⟩), .int .i64 m] w fun e w' => ∃ k : Nat, (k : Int) < m ∧ e = .returned (.int .i64 k) ∧ DrSt B w0 s A n c l base p r names (i + 1) w' := by
  obtain ⟨j, hj, hs⟩ := h.src
  refine (pick_any B s A n c j l m hm hm2 w hs hn (by omega)).mono ?_
  rintro e w' ⟨⟨k, hk, rfl⟩, ⟨j', hj', hs'⟩, ho⟩
  exact ⟨k, hk, rfl, h.step (Tm.one ho) ⟨j', by omega, hs'⟩⟩
end
set_option maxRecDepth 100000 in
set_option maxHeartbeats 4000000 in
theorem drawDesk_any (B s : Nat) (A : Option Addr) (n c i : Nat) (l : List Int) (w : World) (hS : Src B w s A n c l i) (hn : n ≤ maxLen) (hi : i ≤ 1000) :
    Calls Tryd.prog 35 #[.pointer (some ⟨s, 0, none⟩)] w fun e w' => ∃ G c1 G2 c2 names, e = .returned (.agg #[.slice G names.length c1, .slice G2 names.length c2]) ∧ names.length ≤ 3 ∧ (∀ r ∈ names, PcOk 4 r) ∧ Rd w' G (strs names) ∧ (∀ a, G = some a → w.heap.size ≤ a.block) ∧ Tm s w w' := by
  have hs := hS.at_.le
  have D0 : DrSt B w s A n c l (w.heap.size + 1) (w.heap.size + 1) w.heap.size [] i ((w.alloc (.cells #[.slice none 0 0, .slice none 0 0] 37)).alloc (.cells #[.slice none 0 0, .slice none 0 0] 37)) := by
    have hB : Below w.heap.size w ((w.alloc (.cells #[.slice none 0 0, .slice none 0 0] 37)).alloc (.cells #[.slice none 0 0, .slice none 0 0] 37)) := Ext.more (Ext.more (Ext.refl _) _) _
    refine ⟨⟨i, Nat.le_refl _, hS.ext hB⟩, .inl ⟨rfl, ?_⟩, (Blk.made _ _ _).more _, Tm.of hB, by simp, by omega, Nat.le_refl _, by omega⟩
    have := Blk.made (w.alloc (.cells #[.slice none 0 0, .slice none 0 0] 37)) 37 #[.slice none 0 0, .slice none 0 0]
    simpa using this
  clear hS
  go_enter Tryd.func35, Tryd.ntmps35
  go_wp2_with fail
  generalize (w.alloc (.cells #[.slice none 0 0, .slice none 0 0] 37)).alloc (.cells #[.slice none 0 0, .slice none 0 0] 37) = w1 at *
  refine (D0.pick hn (by omega) 7 (by decide) (by decide)).mono ?_
  rintro e w2 ⟨k1, hk1, rfl, D1⟩
  clear D0
  go_wp2_with fail
  refine (D1.pick hn (by omega) 7 (by decide) (by decide)).mono ?_
  rintro e w3 ⟨k2, hk2, rfl, D2⟩
  clear D1
  obtain ⟨W, hWd⟩ : ∃ W, k1 + 1 = W := ⟨_, rfl⟩
  obtain ⟨H, hHt⟩ : ∃ H, k2 + 1 = H := ⟨_, rfl⟩
  have e1 : (1 : Int) + (k1 : Int) = (W : Int) := by omega
  have e2 : (1 : Int) + (k2 : Int) = (H : Int) := by omega
  have hW : 0 < W ∧ W ≤ 7 := by omega
  have hH : 0 < H ∧ H ≤ 7 := by omega
  clear hWd hHt
  try rw [e1]
  go_wp2_with fail
  try rw [e1]
  try rw [e2]
  refine (D2.pick hn (by omega) 4 (by decide) (by decide)).mono ?_
  rintro e w4 ⟨k3, hk3, rfl, D3⟩
  clear D2 e1 e2 hk1 hk2
  go_wp2_with fail
  go_loopw [6, 7, 8] (fun kv _ _ wr => ∃ (k : Nat) (names : List ByteArray), k ≤ 3 ∧ kv = .int .i64 k ∧ names.length + k ≤ 3 ∧ DrSt B w s A n c l (w.heap.size + 1) (w.heap.size + 1) w.heap.size names (i + 3 + 700 * (3 - k)) wr) (fun kv _ _ _ => (intOf kv).toNat)
  case atStart =>
    obtain ⟨j, hj, h⟩ := D3.src
    exact ⟨k3, [], by omega, rfl, by simp; omega, D3.step (Tm.refl _ _) ⟨j, by omega, h⟩⟩
  case round =>
    obtain ⟨k, names, hk, rfl, hnk, D⟩ := hrel
    clear D3
    by_cases hz : k = 0
    · subst hz
      have HD := Lib.hid D
      rcases D.dk with ⟨rfl, hB⟩ | ⟨pvs, g, c1, g2, c2, hB⟩
      · have cp0 := hB.cell 0
        have cp1 := hB.cell 1
        have cr0 := D.res.cell 0
        have cr1 := D.res.cell 1
        have fr0 := D.res.free 0
        have fr1 := D.res.free 1
        simp at cp0 cp1 cr0 cr1
        clear D hB
        go_wp2_with fail
        have RS := (HD.out.res.store 0 (.slice none 0 0)).store 1 (.slice none 0 0)
        have s0 := RS.cell 0
        have s1 := RS.cell 1
        simp at s0 s1
        refine bodyPost_ret (v := .agg #[.slice none 0 0, .slice none 0 0]) (by simp [results, Tryd.results35, go_sem, s0, s1]) rfl ⟨_, _, _, _, [], rfl, by simp, fun x hx => (HD.out.no x hx).1, ?_, ?_, ?_⟩
        · exact fun h => by simp [strs] at h
        · exact fun a h => by cases h
        · exact Chg.store (Chg.store HD.out.tm (p := ⟨w.heap.size, 0, none⟩) (.inr (Nat.le_refl _)) _) (p := ⟨w.heap.size, 1, none⟩) (.inr (Nat.le_refl _)) _
      · have cp0 := hB.blk.cell 0
        have cp1 := hB.blk.cell 1
        have cr0 := D.res.cell 0
        have cr1 := D.res.cell 1
        have fr0 := D.res.free 0
        have fr1 := D.res.free 1
        simp at cp0 cp1 cr0 cr1
        have HB := Lib.hid hB
        clear D hB
        go_wp2_with fail
        have OW := ownsRow_setCell_other HB.out.own (a := ⟨w.heap.size, 0, none⟩) (own_blk_ne HB.out.own HD.out.res (by decide)) (.slice (some ⟨g, 0, none⟩) names.length c1)
        have OX := ownsRow_setCell_other OW (a := ⟨w.heap.size, 1, none⟩) (own_blk_ne HB.out.own HD.out.res (by decide)) (.slice (some ⟨g2, 0, none⟩) names.length c2)
        have RS := (HD.out.res.store 0 (.slice (some ⟨g, 0, none⟩) names.length c1)).store 1 (.slice (some ⟨g2, 0, none⟩) names.length c2)
        have s0 := RS.cell 0
        have s1 := RS.cell 1
        simp at s0 s1
        refine bodyPost_ret (v := .agg #[.slice (some ⟨g, 0, none⟩) names.length c1, .slice (some ⟨g2, 0, none⟩) names.length c2]) (by simp [results, Tryd.results35, go_sem, s0, s1]) rfl ⟨_, _, _, _, names, rfl, by omega, fun x hx => (HD.out.no x hx).1, ?_, ?_, ?_⟩
        · exact Rd.of_own OX
        · intro a h
          obtain rfl := Option.some.inj h
          have := (HB.out.own.lt g rfl).1
          show w.heap.size ≤ g
          omega
        · exact Chg.store (Chg.store HD.out.tm (p := ⟨w.heap.size, 0, none⟩) (.inr (Nat.le_refl _)) _) (p := ⟨w.heap.size, 1, none⟩) (.inr (Nat.le_refl _)) _
    · have t0 : (0 : Int) < (k : Int) := by omega
      obtain ⟨j, hj, S⟩ := D.src
      have hsr := S.at_.le
      have hBs := S.high
      have TX := Lib.hid (text_any B s A n c j l (some ⟨wr.heap.size, 0, none⟩) 5 litD (wr.alloc (.cells #[.string ⟨#[97]⟩, .string ⟨#[98]⟩, .string ⟨#[108, 101, 97, 102]⟩, .string ⟨#[120]⟩, .string ⟨#[102, 97, 114]⟩] 9)) (S.ext (Ext.more (Ext.refl _) _)) hn (by omega) (RdN.made hsr litD _ rfl _) (by decide) (by decide))
      have T0 : Tm s wr (wr.alloc (.cells #[.string ⟨#[97]⟩, .string ⟨#[98]⟩, .string ⟨#[108, 101, 97, 102]⟩, .string ⟨#[120]⟩, .string ⟨#[102, 97, 114]⟩] 9)) := Tm.of (Ext.more (Ext.refl _) _)
      have HD := Lib.hid D
      clear D S
      go_wp2_with fail
      refine TX.out.mono ?_
      rintro e w5 ⟨⟨rn, hmem, rfl⟩, ⟨j1, hj1, S1⟩, ho1⟩
      have T1 := T0.trans (Tm.one ho1)
      have hrn := Lib.hid (litD_ok rn hmem)
      have DG := Lib.hid (drawG_any B s A n c j1 l W H w5 S1 hn (by omega) hW.1 (by omega) hH.1 (by omega))
      clear TX T0 hmem S1 ho1
      go_wp2_with fail
      refine DG.out.mono ?_
      rintro e w6 ⟨A6, c6, L, rfl, hL, own6, T6, j2, hj2, S2⟩
      have T2 := (T1.trans T6).trans (Tm.of (Ext.more (Ext.refl w6) (.cells #[.slice A6 H c6] 77)))
      have X2 := Blk.made w6 77 #[.slice A6 H c6]
      have ON := Lib.hid (one_any B s A n c j2 l 4 (by decide) (by decide) (w6.alloc (.cells #[.slice A6 H c6] 77)) (S2.ext (Ext.more (Ext.refl _) _)) hn (by omega))
      have hs6 := S2.at_.le
      have zwr : wr.heap.size ≤ w6.heap.size := Nat.le_trans T1.size T6.size
      clear DG T1 T6 S2 own6 hL
      go_wp2_with fail
      refine ON.out.mono ?_
      rintro e w7 ⟨⟨b, rfl⟩, ⟨j3, hj3, S3⟩, ho3⟩
      have X3 := ho3.blk X2 (by omega)
      have T3 := T2.trans (Tm.one ho3)
      clear ON X2 T2 ho3
      generalize w6.heap.size = q at *
      cases b
      case' false =>
        have c3 := X3.cell 0
        simp at c3
        have hres := HD.out.res.lt
        have D3 := Lib.hid (HD.out.step T3 ⟨j3, Nat.le_refl _, S3⟩)
        have ST := Lib.hid (dsetU_any (w.heap.size + 1) (w.heap.size + 1) names rn A6 H c6 w7 D3.out.dk (Nat.le_refl _) (by have := T3.size; omega) (by omega) hrn.out.2 (by have := hrn.out.1.2; omega))
        clear X3 T3 S3
        go_wp2_with fail
        refine ST.out.mono ?_
      case' true =>
        have DG2 := Lib.hid (drawG_any B s A n c j3 l 4 4 w7 S3 hn (by omega) (by decide) (by decide) (by decide) (by decide))
        clear S3
        go_wp2_with fail
        refine DG2.out.mono ?_
        rintro e w8 ⟨A8, c8, L8, rfl, hL8, own8, T8, j4, hj4, S4⟩
        have X4 := Chg.blk T8 X3 (by have := X3.lt; rintro (e | e) <;> omega)
        have cq := X4.cell 0
        have fq := X4.free 0
        simp at cq
        have T4 : Tm s wr (w8.setCell ⟨q, 0, none⟩ (.slice A8 4 c8)) := Chg.store (T3.trans T8) (p := ⟨q, 0, none⟩) (.inr zwr) _
        have S5 := S4.other (p := ⟨q, 0, none⟩) (by show B ≤ q; omega) (by show s ≠ q; omega) (.slice A8 4 c8)
        have X5 := X4.store 0 (.slice A8 4 c8)
        clear DG2 X3 T3 hL8 own8 T8 S4
        have hres := HD.out.res.lt
        have D3 := Lib.hid (HD.out.step T4 ⟨j4, Nat.le_refl _, S5⟩)
        have c5 := X5.cell 0
        simp at c5
        have ST := Lib.hid (dsetU_any (w.heap.size + 1) (w.heap.size + 1) names rn A8 4 c8 (w8.setCell ⟨q, 0, none⟩ (.slice A8 4 c8)) D3.out.dk (Nat.le_refl _) (by have := T4.size; omega) (by omega) hrn.out.2 (by have := hrn.out.1.2; omega))
        clear S5
        go_wp2_with fail
        refine ST.out.mono ?_
      all_goals
        rintro e w9 ⟨rfl, hB, names', hD', hl', hm'⟩
        have DF : Hid (DrSt B w s A n c l (w.heap.size + 1) (w.heap.size + 1) w.heap.size names' (i + 3 + 700 * (3 - (k - 1))) w9) := by
          obtain ⟨j9, hj9, S9⟩ := D3.out.src
          refine ⟨⟨j9, by omega, S9.under hB (by omega)⟩, hD', D3.out.res.under hB (by omega), Chg.trans D3.out.tm ((Chg.of_below hB).mono (fun b hb => .inr (by omega))), fun x hx => ?_, by omega, Nat.le_refl _, by omega⟩
          rcases hm' x hx with h | rfl
          · exact HD.out.no x h
          · exact hrn.out
        clear ST hB hD' hm'
        go_wp2_with fail
        go_roundw
        case rel => exact ⟨k - 1, names', by omega, by simp; omega, by omega, DF.out⟩
        case measure => simp [intOf]; omega
end Go.Proofs.YtgbciimfpahekaaDoor

namespace Go.Proofs.YtgbciimfpahekaaDoor
open Go.RowKit Go.Shelf

set_option maxHeartbeats 1000000 in
theorem b10Desk_any (A : Option Addr) (n c : Nat) (l : List Int) (w : World) (hl : BytesAt w A n l) (hn : n ≤ maxLen) :
    Calls Tryd.prog 17 #[.slice A n c] w fun e w' => ∃ G c1 G2 c2 names, e = .returned (.agg #[.slice G names.length c1, .slice G2 names.length c2]) ∧ names.length ≤ 3 ∧ (∀ r ∈ names, PcOk 4 r) ∧ Rd w' G (strs names) ∧ Below w.heap.size w w' := by
  have F0 := Lib.hid (from0_any A n c l (w.alloc (.cells #[.slice none 0 0, .slice none 0 0] 37)) (hl.ext (Ext.more (Ext.refl _) _)))
  have R0 := Blk.made w 37 #[.slice none 0 0, .slice none 0 0]
  have B0 : Below w.heap.size w (w.alloc (.cells #[.slice none 0 0, .slice none 0 0] 37)) := Ext.more (Ext.refl _) _
  clear hl
  go_enter Tryd.func17, Tryd.ntmps17
  go_wp2_with fail
  refine F0.out.mono ?_
  rintro e w1 ⟨s, rfl, S1, hb1⟩
  replace R0 := R0.under hb1 R0.lt
  replace B0 := Ext.then_ B0 hb1
  simp only [World.size_alloc] at S1
  clear hb1 F0
  have hsw := S1.high
  have DD := Lib.hid (drawDesk_any _ s A n c 0 l w1 S1 hn (by decide))
  have hs1 := S1.at_.le
  clear S1
  go_wp2_with fail
  refine DD.out.mono ?_
  rintro e w2 ⟨G, c1, G2, c2, names, rfl, hlen, hok, hrd, hlow, T⟩
  have R2 := Chg.blk T R0 (by have := R0.lt; rintro (e | e) <;> omega)
  have hR0 := R0.lt
  have B2 : Below w.heap.size w w2 := B0.trans (Chg.below T (fun k e => by rcases e with rfl | e <;> omega) (by omega))
  have RS := (R2.store 0 (.slice G names.length c1)).store 1 (.slice G2 names.length c2)
  have s0 := RS.cell 0
  have s1 := RS.cell 1
  have r0 := R2.cell 0
  have r1 := R2.cell 1
  have f0 := R2.free 0
  have f1 := R2.free 1
  simp at s0 s1 r0 r1
  have FIN : Hid (Rd ((w2.setCell ⟨w.heap.size, 0, none⟩ (.slice G names.length c1)).setCell ⟨w.heap.size, 1, none⟩ (.slice G2 names.length c2)) G (strs names)) := by
    intro hn0
    obtain ⟨g, e, hg, hc⟩ := hrd hn0
    have := hlow _ e
    simp at this
    refine ⟨g, e, by simpa [World.setCell] using hg, fun i hi => ?_⟩
    rw [World.cell?_setCell_far _ _ _ _ (by simp; omega), World.cell?_setCell_far _ _ _ _ (by simp; omega)]
    exact hc i hi
  have B3 := Lib.hid (Below.setCell (Below.setCell B2 (p := ⟨w.heap.size, 0, none⟩) (Nat.le_refl _) (.slice G names.length c1)) (p := ⟨w.heap.size, 1, none⟩) (Nat.le_refl _) (.slice G2 names.length c2))
  clear DD hrd hlow T R2 RS B2 R0 B0
  go_wp2_with fail
  refine bodyPost_ret (v := .agg #[.slice G names.length c1, .slice G2 names.length c2]) (by simp [results, Tryd.results17, go_sem, s0, s1]) rfl ⟨G, c1, G2, c2, names, rfl, hlen, hok, FIN.out, B3.out⟩
set_option maxHeartbeats 2000000 in
theorem b10Lines_any (A : Option Addr) (n c : Nat) (l : List Int) (G : Option Addr) (c1 : Nat) (G2 : Option Addr) (c2 : Nat) (names : List ByteArray) (w : World) (hl : BytesAt w A n l) (hn : n ≤ maxLen) (hr : Rd w G (strs names)) (hlen : names.length ≤ 3) (hok : ∀ r ∈ names, PcOk 4 r) :
    Calls Tryd.prog 16 #[.slice A n c, .agg #[.slice G names.length c1, .slice G2 names.length c2]] w fun e w' => ∃ G' c' lines, e = .returned (.slice G' lines.length c') ∧ lines.length ≤ 6 ∧ (∀ r ∈ lines, PcOk 300 r) ∧ Rd w' G' (strs lines) ∧ Below w.heap.size w w' := by
  have F0 := Lib.hid (from0_any A n c l (w.alloc (.cells #[.slice G names.length c1, .slice G2 names.length c2] 37)) (hl.ext (Ext.more (Ext.refl _) _)))
  have R0 := Blk.made w 37 #[.slice G names.length c1, .slice G2 names.length c2]
  have B0 : Below w.heap.size w (w.alloc (.cells #[.slice G names.length c1, .slice G2 names.length c2] 37)) := Ext.more (Ext.refl _) _
  clear hl
  go_enter Tryd.func16, Tryd.ntmps16
  go_wp2_with fail
  refine F0.out.mono ?_
  rintro e w1 ⟨s, rfl, S1, hb1⟩
  have L1 : LnSt (w.alloc (.cells #[.slice G names.length c1, .slice G2 names.length c2] 37)).heap.size w1 s A n c l w.heap.size names 0 w1 := by
    have hR := R0.under hb1 R0.lt
    have hs := S1.high
    simp at hs
    have hb := Ext.then_ B0 hb1
    refine ⟨⟨0, Nat.le_refl _, S1⟩, Tm.refl _ _, ⟨G, c1, by omega, hR.lt, (hR.cell 0).trans rfl, fun h0 => ?_⟩, hn, by omega, by omega, fun r hr => (hok r hr).le (by decide)⟩
    obtain ⟨g, e, hg, hc⟩ := (hr.ext hb).str h0
    obtain ⟨g', e', hg', _⟩ := hr.str h0
    rw [e] at e'
    cases e'
    exact ⟨g, e, by omega, hg, hc⟩
  have B1 := Ext.then_ B0 hb1
  have hs1 := S1.high
  simp at hs1
  have hs2 := S1.at_.le
  clear S1 hb1 F0 R0 B0 hr
  generalize (w.alloc (.cells #[.slice G names.length c1, .slice G2 names.length c2] 37)).heap.size = BB at *
  have O2 := Lib.hid (World.ownsRow_lit (e := 9) (size := 1) w1 #[] 0 (Nat.le_refl _) (by decide) rfl)
  go_wp2_with fail
  have L2 := L1.alloc (.cells #[] 9)
  have D1 := Lib.hid L1.dk
  have NN := Lib.hid (And.intro L1.nl L1.no)
  replace O2 := O2.out
  have T0 : ((w1.alloc (.cells #[] 9)).ownsRow w1.heap.size 9 1 (.slice (some ⟨w1.heap.size, 0, none⟩) 0 0) 0 []) := O2
  clear O2 L1
  have z1 : w1.heap.size ≤ (w1.alloc (.cells #[] 9)).heap.size := by simp
  generalize w1.alloc (.cells #[] 9) = w2 at *
  refine (L2.fresh.pick 7 (by decide) (by decide) (by omega)).mono ?_
  rintro e w3 ⟨k3, hk3, rfl, L3f⟩
  have T3 : w3.ownsRow w1.heap.size 9 1 (.slice (some ⟨w1.heap.size, 0, none⟩) 0 0) 0 [] := by
    refine Chg.own L3f.tm T0 (fun b hb => ?_)
    have h1 := T0.lt b hb
    rintro (e | e) <;> omega
  have L3 := L3f.back L2.tm
  clear L2 T0 L3f
  go_wp2_with fail
  go_loopw [6, 7] (fun ov kv wr => ∃ (k g cc : Nat) (lines : List ByteArray), k ≤ 6 ∧ kv = .int .i64 k ∧ lines.length + k ≤ 6 ∧ ov = .slice (some ⟨g, 0, none⟩) lines.length cc ∧ (∀ r ∈ lines, PcOk 300 r) ∧ wr.ownsRow w1.heap.size 9 1 (.slice (some ⟨g, 0, none⟩) lines.length cc) lines.length (strs lines) ∧ LnSt BB w1 s A n c l w.heap.size names (1 + 1000 * (6 - k)) wr) (fun _ kv _ => (intOf kv).toNat)
  case atStart => exact ⟨k3, _, 0, [], by omega, rfl, by simp; omega, rfl, by simp, T3, L3.more (by omega) (by omega)⟩
  case round =>
    obtain ⟨k, g, cc, lines, hk, rfl, hlk, rfl, hlo, own, L⟩ := hrel
    clear T3 L3
    by_cases hz : k = 0
    · subst hz
      have HH := Lib.hid (And.intro own L)
      clear own L
      go_wp2_with fail
      go_ret
      refine ⟨_, cc, lines, rfl, by omega, hlo, Rd.of_own HH.out.1, ?_⟩
      exact B1.trans (Chg.below HH.out.2.tm (fun b e => by rcases e with rfl | e <;> omega) (by omega))
    · have t0 : (0 : Int) < (k : Int) := by omega
      have hsl := L.le
      have LX := Lib.hid (lineL_any L.fresh (by omega))
      have HO := Lib.hid own
      have HT := Lib.hid L.tm
      have HL := Lib.hid L
      clear own L
      go_wp2_with fail
      refine LX.out.mono ?_
      rintro e w5 ⟨r, hr, rfl, LF⟩
      have O5 : w5.ownsRow w1.heap.size 9 1 (.slice (some ⟨g, 0, none⟩) lines.length cc) lines.length (strs lines) := by
        refine Chg.own LF.tm HO.out (fun b hb => ?_)
        have h1 := HO.out.lt b hb
        rintro (e | e) <;> omega
      have L5 := Lib.hid ((LF.back HT.out).alloc (.cells #[.string r] 9))
      have z5 : w1.heap.size ≤ w5.heap.size := Nat.le_trans HT.out.size LF.tm.size
      have HR := Lib.hid hr
      have gl := HO.out.lt g rfl
      clear LX LF hr
      go_wp2_with (at_builtin; refine wpList_app strT (by rfl) _ _ (by rfl) w1.heap.size (.slice (some ⟨g, 0, none⟩) lines.length cc) lines.length (strs lines) (by rfl) (O5.alloc _) w5.heap.size #[.string r] (by rfl) (heap_alloc_new _ _) rfl (by simp [Value.oneCell']) (by omega) (le_alloc z5) ?_; intro g6 cap6 w7 own7 grow7 hat7 hlt7)
      have hg7 : ∀ z, (Value.slice (some (⟨g, 0, none⟩ : Addr)) lines.length cc).ownBlock = some z → w1.heap.size ≤ z := fun z hz => by
        obtain rfl := Option.some.inj (show some g = some z from hz)
        exact gl.1
      have T7 : Tm s w1 w7 := Chg.trans L5.out.tm ((Chg.of_grown grow7 hg7).mono fun b hb => .inr hb)
      have LN : Hid (LnSt BB w1 s A n c l w.heap.size names (1 + 1000 * (6 - (k - 1))) w7) := by
        obtain ⟨j, hj, hs⟩ := L5.out.src
        have hh := hs.high
        have gl1 := gl.1
        refine ⟨⟨j, by omega, hs.grown grow7 (fun e => by have := Option.some.inj (show some s = some g from e); omega) (fun z hz => by have := hg7 z hz; omega) (by simp; omega)⟩, T7, D1.out.tm T7, hn, by omega, NN.out.1, NN.out.2⟩
      go_roundw
      case rel =>
        refine ⟨k - 1, g6, cap6, lines ++ [r], by omega, by simp; omega, by simp; omega, by simp, fun x hx => ?_, by simpa [strs] using own7, LN.out⟩
        rcases List.mem_append.1 hx with h | h
        · exact hlo x h
        · simp at h
          subst h
          exact HR.out
      case measure => simp [intOf]; omega
end Go.Proofs.YtgbciimfpahekaaDoor

namespace Go.Proofs.YtgbciimfpahekaaDoor
open Go.RowKit Go.Shelf

theorem map_mkB_bl (lines : List ByteArray) : (lines.map bl).map mkB = lines := by
  rw [List.map_map]
  conv => rhs; rw [← List.map_id lines]
  exact List.map_congr_left fun r _ => mkB_bl r
theorem map_bl_mkB (o : List (List UInt8)) : (o.map mkB).map bl = o := by
  rw [List.map_map]
  conv => rhs; rw [← List.map_id o]
  exact List.map_congr_left fun r _ => bl_mkB r
theorem rcv_none {c : Nat} {r : List UInt8} (h : (10 : UInt8) ∉ r) : rcv c r = ([], 0) := rcv_end (by rw [fnd_none h]; omega)
theorem tot3_le (lines : List ByteArray) (h : ∀ r ∈ lines, r.size ≤ 300) : ∀ k, k ≤ lines.length → tot3 lines k ≤ 303 * k
  | 0, _ => by simp [tot3]
  | k + 1, hk => by
    rw [tot3_succ lines k (by omega)]
    have := tot3_le lines h k (by omega)
    have := h lines[k] (List.getElem_mem _)
    omega
theorem tot3_len (rows : List ByteArray) : ∀ k, k ≤ rows.length → 3 * k ≤ tot3 rows k
  | 0, _ => by omega
  | k + 1, hk => by
    rw [tot3_succ rows k (by omega)]
    have := tot3_len rows k (by omega)
    omega
theorem tot3_mem (rows : List ByteArray) : ∀ k, k ≤ rows.length → ∀ i (_ : i < k) (h : i < rows.length), rows[i].size ≤ tot3 rows k
  | 0, _ => fun i h _ => by omega
  | k + 1, hk => fun i h hi => by
    rw [tot3_succ rows k (by omega)]
    by_cases e : i = k
    · subst e; omega
    · have := tot3_mem rows k (by omega) i (by omega) hi
      omega
theorem jl_small (lines : List ByteArray) (h6 : lines.length ≤ 6) (h : ∀ r ∈ lines, PcOk 300 r) : (jl 0 (lines.map bl)).length ≤ 6000 := by
  have h1 := (tot3_jl lines lines.length (Nat.le_refl _)).2
  have h2 := tot3_le lines (fun r hr => (h r hr).2) lines.length (Nat.le_refl _)
  rw [show (lines.map bl).take lines.length = lines.map bl by rw [List.take_of_length_le (by simp)]] at h1
  omega
/-- A beginning of a journal, with what is left behind it. -/
structure JqP (lines : List ByteArray) (T : List UInt8) (at_ k : Nat) (r : List UInt8) : Prop where
  eq : T.take at_ = jl 0 ((lines.take k).map bl) ++ r
  nr : (10 : UInt8) ∉ r
  lt : k < lines.length
theorem jq_ex (lines : List ByteArray) (h : ∀ r ∈ lines, PcOk 300 r) (at_ : Nat) (ha : at_ < (jl 0 (lines.map bl)).length) : ∃ k r, JqP lines (jl 0 (lines.map bl)) at_ k r := by
  obtain ⟨k, r, hk, he, hr⟩ := jl_cut (lines.map bl) 0 at_ (fun l hl => by
    obtain ⟨x, hx, rfl⟩ := List.mem_map.1 hl
    exact (h x hx).1) ha
  exact ⟨k, r, by rw [he, List.map_take], hr, by simpa using hk⟩
theorem no10_take {lines : List ByteArray} (h : ∀ r ∈ lines, PcOk 300 r) (k : Nat) : ∀ l ∈ (lines.take k).map bl, (10 : UInt8) ∉ l := fun l hl => by
  obtain ⟨x, hx, rfl⟩ := List.mem_map.1 hl
  exact (h x (List.mem_of_mem_take hx)).1
theorem JqP.rcv {lines : List ByteArray} {T : List UInt8} {at_ k : Nat} {r : List UInt8} (q : JqP lines T at_ k r) (h : ∀ r ∈ lines, PcOk 300 r) : rcv 0 (T.take at_) = ((lines.take k).map bl, (jl 0 ((lines.take k).map bl)).length) := by
  rw [q.eq, rcv_lines _ _ _ (no10_take h k), rcv_none q.nr]
  simp
theorem JqP.count {lines : List ByteArray} {T : List UInt8} {at_ k : Nat} {r : List UInt8} (q : JqP lines T at_ k r) (h : ∀ r ∈ lines, PcOk 300 r) : (T.take at_).count 10 = k := by
  rw [q.eq, List.count_append, count_jl _ _ (no10_take h k), List.count_eq_zero.2 q.nr]
  have := q.lt
  simp
  omega
theorem JqP.bent {lines : List ByteArray} {T : List UInt8} {at_ k : Nat} {r : List UInt8} (q : JqP lines T at_ k r) (h : ∀ r ∈ lines, PcOk 300 r) (b : List UInt8) : ∃ o m, Go.Proofs.YtgbciimfpahekaaDoor.rcv 0 (T.take at_ ++ b) = (o, m) ∧ (jl 0 ((lines.take k).map bl)).length ≤ m ∧ m ≤ (T.take at_ ++ b).length ∧ jl 0 o = (T.take at_ ++ b).take m ∧ ∀ l ∈ o, (10 : UInt8) ∉ l := by
  obtain ⟨h1, h2, h3⟩ := rcv_jl _ (T.take at_ ++ b) 0 (Nat.le_refl _)
  refine ⟨_, _, rfl, ?_, h1, h2, h3⟩
  rw [q.eq, List.append_assoc, rcv_lines _ _ _ (no10_take h k)]
  exact Nat.le_add_right _ _
/-- What the law says of a cut journal. -/
structure CutP (lines : List ByteArray) (t p : ByteArray) (at_ k : Nat) : Prop where
  b : rcB p = true
  r : rcR p = lines.take k
  n : rcN p ≤ at_
  c : (bl p).count 10 = k
  j : jOk (rcR p) = true
  v : jV (rcR p) = t.extract 0 (rcN p)
  lt : k < lines.length
theorem jOk_take {lines : List ByteArray} (h : ∀ r ∈ lines, PcOk 300 r) (h6 : lines.length ≤ 6) (k : Nat) : jOk (lines.take k) = true :=
  jOk_yes (fun r hr => (h r (List.mem_of_mem_take hr)).1) (jl_small _ (by simp; omega) (fun r hr => h r (List.mem_of_mem_take hr)))
theorem cut_of {lines : List ByteArray} (h : ∀ r ∈ lines, PcOk 300 r) (h6 : lines.length ≤ 6) (at_ : Nat) (ha : at_ < (jV lines).size) : ∃ k, CutP lines (jV lines) ((jV lines).extract 0 at_) at_ k ∧
    ∀ b : List UInt8, b.length ≤ (jV lines).size - at_ → ∀ q, q = mkB (bl ((jV lines).extract 0 at_) ++ b) → rcB q = true ∧ jOk (rcR q) = true ∧ rcN ((jV lines).extract 0 at_) ≤ rcN q ∧ rcN q ≤ q.size ∧ jV (rcR q) = q.extract 0 (rcN q) ∧ (rcR q).length ≤ 6000 ∧ ∀ r ∈ rcR q, r.size ≤ 6000 := by
  have hj : jOk lines = true := jOk_yes (fun r hr => (h r hr).1) (jl_small _ h6 h)
  have hT := jl_small lines h6 h
  rw [jV_yes hj] at ha ⊢
  generalize hTT : jl 0 (lines.map bl) = T at *
  rw [mkB_size] at ha
  obtain ⟨k, r, q⟩ := jq_ex lines h at_ (by rw [hTT]; exact ha)
  rw [hTT] at q
  have ep : bl ((mkB T).extract 0 at_) = T.take at_ := by rw [ext_mkB, bl_mkB, bl_mkB]; simp
  have hsz : (T.take at_).length ≤ 6000 := by simp; omega
  have hB : rcB ((mkB T).extract 0 at_) = true := by rw [rcB, decide_eq_true_iff, ← bl_len, ep]; exact hsz
  have hR : rcR ((mkB T).extract 0 at_) = lines.take k := by rw [rcR, if_pos hB, ep, q.rcv h]; exact map_mkB_bl _
  have hN : rcN ((mkB T).extract 0 at_) = (jl 0 ((lines.take k).map bl)).length := by rw [rcN, if_pos hB, ep, q.rcv h]
  have hle : (jl 0 ((lines.take k).map bl)).length ≤ at_ := by
    have := congrArg List.length q.eq
    simp at this
    simp
    omega
  refine ⟨k, ⟨hB, hR, by rw [hN]; exact hle, by rw [ep]; exact q.count h, by rw [hR]; exact jOk_take h h6 k, ?_, q.lt⟩, ?_⟩
  · rw [hR, jV_yes (jOk_take h h6 k), hN, ext_mkB, bl_mkB]
    have : T.take (jl 0 ((lines.take k).map bl)).length = jl 0 ((lines.take k).map bl) := by
      have e := congrArg (List.take (jl 0 ((lines.take k).map bl)).length) q.eq
      rw [List.take_take, Nat.min_eq_left hle, List.take_left] at e
      exact e
    rw [Nat.sub_zero, List.drop_zero, this]
  · rintro b hb _ rfl
    rw [ep]
    obtain ⟨o, m, e1, e2, e3, e4, e5⟩ := q.bent h b
    rw [mkB_size] at hb
    have hz : (T.take at_ ++ b).length ≤ 6000 := by simp; omega
    have hB2 : rcB (mkB (T.take at_ ++ b)) = true := by rw [rcB, decide_eq_true_iff, mkB_size]; exact hz
    have hR2 : rcR (mkB (T.take at_ ++ b)) = o.map mkB := by rw [rcR, if_pos hB2, bl_mkB, e1]
    have hN2 : rcN (mkB (T.take at_ ++ b)) = m := by rw [rcN, if_pos hB2, bl_mkB, e1]
    have hjl : (jl 0 ((o.map mkB).map bl)).length ≤ 6000 := by rw [map_bl_mkB, e4, List.length_take]; omega
    have hJ : jOk (o.map mkB) = true := jOk_yes (fun r hr => by
      obtain ⟨x, hx, rfl⟩ := List.mem_map.1 hr
      rw [bl_mkB]
      exact e5 x hx) hjl
    have htot := (tot3_jl (o.map mkB) _ (Nat.le_refl _)).1
    rw [List.take_of_length_le (by simp)] at htot
    refine ⟨hB2, by rw [hR2]; exact hJ, by rw [hN, hN2]; exact e2, by rw [hN2, mkB_size]; exact e3, ?_, ?_, ?_⟩
    · rw [hR2, hN2, jV_yes hJ, map_bl_mkB, e4, ext_mkB, bl_mkB]; simp
    · rw [hR2]
      have := tot3_len (o.map mkB) _ (Nat.le_refl _)
      omega
    · intro x hx
      rw [hR2] at hx
      obtain ⟨i, hi, rfl⟩ := List.mem_iff_getElem.1 hx
      have := tot3_mem (o.map mkB) _ (Nat.le_refl _) i hi hi
      omega
end Go.Proofs.YtgbciimfpahekaaDoor
