/-
  WALKS over package solver, sixth part: run.
-/
import Derived.Test.YtfeablchjlkjiaaSolvE
import Derived.Test.YtfeablchjlkjiaaSolvRun
import Derived.Deep.RegionWith
namespace Go.Proofs.Ytfeablchjlkjiaa
open Go.RowKit Go.Proofs.YtfeablchjlkjiaaW.PrintWords Go.Proofs.YtfeablchjlkjiaaW.PrintMore

theorem IsS.alloc {w : World} {base g : Nat} {p : Pb} {s : St} {vb : Nat} {tv cv : Value} (hs : IsS base w g p s vb tv cv) (o : Obj) : IsS base (w.alloc o) g p s vb tv cv :=
  ⟨⟨(Below.heap_alloc _ _ _ (blk_lt hs.at_.blk)).trans hs.at_.blk, (Below.heap_alloc _ _ _ (blk_lt hs.at_.val)).trans hs.at_.val⟩, hs.tr.alloc o, hs.ch.alloc o, hs.gb, hs.vbb, by have := hs.size; simp; omega⟩
theorem Keep.alloc {base : Nat} {a b : World} (h : Keep base a b) (hb : base ≤ b.heap.size) (o : Obj) : Keep base a (b.alloc o) :=
  h.trans ⟨(Below.refl _ _).alloc hb o, fun _ _ _ hk => (Below.heap_alloc _ _ _ (blk_lt hk)).trans hk⟩

/-- An answer's number, and its looks. -/
def Sv.Res.kind : Sv.Res → Int
  | .spent _ => 3
  | .unsat _ => 2
  | .sat _ _ => 1

/-- What stands where a search is done. -/
def RunPost (base g : Nat) (p : Pb) (R : Sv.Res) (w : World) (e : Ending) (w' : World) : Prop :=
  ∃ s', e = .returned (.int .i64 R.kind) ∧ IsSome base w' g p s' ∧ s'.steps = R.looks ∧ (∀ v st, R = .sat v st → s'.vals = v) ∧ Below base w w'

/-- The problem's lists, as they lay when the search began. -/
structure PbAt (w0 : World) (p : Pb) (n : Nat) (cl : List (List Int)) (pf : List Int) : Prop where
  nq : p.n = n
  small : n ≤ 131071
  clq : ∃ A c, p.cl = .slice A cl.length c ∧ cl.length ≤ c ∧ Kd.C (Kd.slice 3 (Kd.int .i64)) w0 A cl.length cl
  pfq : ∃ A c, p.pf = .slice A pf.length c ∧ pf.length ≤ c ∧ Kd.C (Kd.int .i64) w0 A pf.length pf
  lits : Sv.Lits n cl pf
  bud : p.bud ≤ 1152921504606846976

theorem litOf_of {n : Nat} {v : List Int} {l : Int} (h : Sv.LitN n l) (hv : v.length = n) : LitOf v l := by
  obtain ⟨h1, h2, h3⟩ := h
  unfold LitOf
  rw [hv]
  exact ⟨h1, h2, h3⟩

/-- One look at the clauses, in a state of the run. -/
theorem run_scan {w0 w : World} {g : Nat} {p : Pb} {s : St} {vb : Nat} {tv cv : Value} {n : Nat} {cl : List (List Int)} {pf : List Int} {R : Sv.Res} (hp : PbAt w0 p n cl pf) (hs : IsS w0.heap.size w g p s vb tv cv) (hb : Below w0.heap.size w0 w)
    (hr : Sv.RunAt n cl pf p.bud R s.vals s.tr s.ch s.steps) :
    Calls Try.prog 40 #[.pointer (some ⟨g, 0, none⟩)] w (ScanPost w0.heap.size g p s vb tv cv w (Sv.scan cl p.bud s.vals s.steps)) := by
  have hlen : s.vals.length = n := by rw [hr.valsq, Sv.valsOf_length]
  obtain ⟨A, c, h1, _, h2⟩ := hp.clq
  exact scan_any hs hb (by rw [hlen]; exact hp.small) (by rw [hr.valsq]; exact hr.tr.tri) A c cl h1 h2 (fun c hc l hl => litOf_of (hp.lits.cl c hc l hl) hlen) hr.lo hr.hi hp.bud

theorem backOK_of {w0 : World} {p : Pb} {n : Nat} {cl : List (List Int)} {pf : List Int} {R : Sv.Res} {v t : List Int} {ch : List (Int × Bool)} {st st' : Int} (hp : PbAt w0 p n cl pf) (hr : Sv.RunAt n cl pf p.bud R v t ch st) : BackOK ⟨v, t, ch, st'⟩ := by
  have hlen : v.length = n := by rw [hr.valsq, Sv.valsOf_length]
  have h1 := hr.tr_le
  have h2 := hp.small
  exact ⟨hr.chk, fun x hx => litOf_of (hr.tr.lit x hx) hlen, by show t.length ≤ _; omega, by show v.length ≤ _; omega⟩

/-- A state of the run, where the loop begins anew. -/
structure Round (w0 w : World) (g : Nat) (p : Pb) (n : Nat) (cl : List (List Int)) (pf : List Int) (R : Sv.Res) (s : St) (wr : World) : Prop where
  is : IsSome w0.heap.size wr g p s
  run : Sv.RunAt n cl pf p.bud R s.vals s.tr s.ch s.steps
  keep : Keep w0.heap.size (w.alloc (.cells #[.pointer (some ⟨g, 0, none⟩)] 61)) wr

theorem Round.box {w0 w : World} {g : Nat} {p : Pb} {n : Nat} {cl : List (List Int)} {pf : List Int} {R : Sv.Res} {s : St} {wr : World} (h : Round w0 w g p n cl pf R s wr) : wr.cell? ⟨w.heap.size, 0, none⟩ = some (.pointer (some ⟨g, 0, none⟩)) := by
  have := h.keep.boxes w.heap.size _ _ (heap_alloc_new w (.cells #[.pointer (some ⟨g, 0, none⟩)] 61))
  rw [cell_blk this]
  rfl

set_option maxRecDepth 100000 in
set_option maxHeartbeats 1600000 in
theorem run_any {w0 w : World} {g : Nat} {p : Pb} {s : St} {n : Nat} {cl : List (List Int)} {pf : List Int} {R : Sv.Res} (hp : PbAt w0 p n cl pf) (hs : IsSome w0.heap.size w g p s) (hb : Below w0.heap.size w0 w)
    (hr : Sv.RunAt n cl pf p.bud R s.vals s.tr s.ch s.steps) :
    Calls Try.prog 32 #[.pointer (some ⟨g, 0, none⟩)] w (RunPost w0.heap.size g p R w) := by
  have HP := Lib.hid hp
  have HB := Lib.hid hb
  have hbase : w0.heap.size ≤ w.heap.size := hb.size
  have hrd : Round w0 w g p n cl pf R s (w.alloc (.cells #[.pointer (some ⟨g, 0, none⟩)] 61)) := by
    obtain ⟨vb, tv, cv, hs⟩ := hs
    exact ⟨⟨vb, tv, cv, hs.alloc _⟩, hr, Keep.refl _ _⟩
  have HRD := Lib.hid hrd
  clear hp hs hb hr hrd
  go_enter Try.func32, Try.ntmps32
  go_wp2_with fail
  go_loopg [] (Sv.left n p.bud s.steps s.vals) (fun kq wr => ∃ s1, Sv.left n p.bud s1.steps s1.vals = kq ∧ Round w0 w g p n cl pf R s1 wr)
  case atStart => exact ⟨s, rfl, HRD.out⟩
  case round =>
    obtain ⟨⟨v1, t1, c1, st1⟩, hq, hrd⟩ := hrel
    have hbx := hrd.box
    obtain ⟨vb, tv, cv, hs1⟩ := hrd.is
    have hb1 : Below w0.heap.size w0 wr := (HB.out.alloc hbase _).trans hrd.keep.below
    have hscan := run_scan HP.out hs1 hb1 hrd.run
    have hr := hrd.run
    generalize hsc : Sv.scan cl p.bud v1 st1 = sc at *
    obtain ⟨fl, sp, un, pr, st2⟩ := sc
    have HQ := Lib.hid hq
    have HRD1 := Lib.hid hrd
    have HR := Lib.hid hr
    have HSC := Lib.hid hsc
    have HS1 := Lib.hid hs1
    have HSCAN := Lib.hid hscan
    clear hq hrd hs1 hb1 hscan hsc hr
    go_wp2_with fail
    refine HSCAN.out.mono ?_
    rintro e w' ⟨rfl, hs2, hk2⟩
    have hrd2 := HRD1.out.keep.trans hk2
    have hbx2 : w'.cell? ⟨w.heap.size, 0, none⟩ = some (.pointer (some ⟨g, 0, none⟩)) := by
      have := hrd2.boxes w.heap.size _ _ (heap_alloc_new w (.cells #[.pointer (some ⟨g, 0, none⟩)] 61))
      rw [cell_blk this]
      rfl
    have HS2 := Lib.hid hs2
    have HK2 := Lib.hid hrd2
    clear hs2 hk2 hrd2 hbx
    cases sp with
    | true =>
      have hR := HR.out.spent (by rw [HSC.out])
      rw [HSC.out] at hR
      have HRR := Lib.hid hR
      clear hR
      go_wp2_with fail
      go_ret
      exact ⟨_, by rw [HRR.out]; rfl, ⟨_, _, _, HS2.out⟩, by rw [HRR.out]; rfl, (fun v st h => by rw [HRR.out] at h; cases h), ((Below.refl _ _).alloc hbase _).trans HK2.out.below⟩
    | false =>
      cases fl with
      | true =>
        have hR := HR.out.failed (by rw [HSC.out]) (by rw [HSC.out])
        rw [HSC.out] at hR
        have hback := back_any (s := ⟨v1, t1, c1, st2⟩) ⟨vb, tv, cv, HS2.out⟩ (backOK_of HP.out HR.out)
        have HRR := Lib.hid hR
        have HBACK := Lib.hid hback
        clear hR hback
        go_wp2_with fail
        refine HBACK.out.mono ?_
        intro e w3 hpost
        have HPOST := Lib.hid hpost
        clear hpost
        have h3 := HPOST.out
        unfold BackPost at h3
        have h4 := HRR.out
        simp only [] at h3
        cases hbk : Sv.back c1 v1 t1 with
        | none =>
          rw [hbk] at h3 h4
          obtain ⟨rfl, ⟨v5, t5, hs5⟩, hk5⟩ := h3
          have HS5 := Lib.hid hs5
          have HK5 := Lib.hid (HK2.out.trans hk5)
          have H4 := Lib.hid h4
          clear hs5 hk5 h4 hbk HPOST HRR
          go_wp2_with fail
          go_ret
          exact ⟨_, by rw [H4.out]; rfl, HS5.out, by rw [H4.out]; rfl, (fun v st h => by rw [H4.out] at h; cases h), ((Below.refl _ _).alloc hbase _).trans HK5.out.below⟩
        | some x =>
          obtain ⟨c5, v5, t5⟩ := x
          rw [hbk] at h3 h4
          obtain ⟨rfl, hs5, hk5⟩ := h3
          have hlt := HR.out.left_back (by rw [HSC.out]; exact h4) (by rw [HSC.out]) (by rw [HSC.out])
          rw [HSC.out] at hlt
          have HS5 := Lib.hid hs5
          have HK5 := Lib.hid (HK2.out.trans hk5)
          have H4 := Lib.hid h4
          have HLT := Lib.hid hlt
          clear hs5 hk5 h4 hbk HPOST HRR hlt
          go_wp2_with fail
          go_roundg (Sv.left n p.bud st2 v5)
          case measure => rw [← HQ.out]; exact HLT.out
          case rel => exact ⟨⟨v5, t5, c5, st2⟩, rfl, HS5.out, H4.out, HK5.out⟩
      | false =>
        by_cases hu : un = 0
        · subst hu
          have hlen : v1.length = n := by rw [HR.out.valsq, Sv.valsOf_length]
          obtain ⟨A, c, hpA, hpc, hpr⟩ := HP.out.pfq
          have g2 : w'.cell? ⟨g, 2, none⟩ = some (.slice A pf.length c) := by rw [← hpA]; exact HS2.out.at_.cell 2
          have hb2 : Below w0.heap.size w0 w' := (HB.out.alloc hbase _).trans HK2.out.below
          have hpr2 : (Kd.int .i64).C w' A pf.length pf := Kd.C_below hpr hb2
          have hidx := indexFunc_any HS2.out (by show v1.length ≤ _; rw [hlen]; exact HP.out.small) (by show Tri v1; rw [HR.out.valsq]; exact HR.out.tr.tri) w.heap.size hbx2 A c pf hpr2 (fun l hl => litOf_of (HP.out.lits.pf l hl) hlen)
          have HIDX := Lib.hid hidx
          have HPR2 := Lib.hid hpr2
          have HLEN := Lib.hid hlen
          have HPL : pf.length ≤ 9223372036854775807 := hpr.2.1
          clear hidx hpr2 hb2 hpr hpA hlen
          go_wp2_with fail
          refine HIDX.out.mono ?_
          rintro e w3 ⟨r, rfl, rfl, hidx⟩
          rcases hidx with ⟨rfl, hno⟩ | ⟨k, rfl, hk, hso⟩
          · have hdec : Sv.decision pf v1 pr = pr := by unfold Sv.decision; rw [show Sv.firstOpen v1 pf = none from hno]
            by_cases hp0 : pr = 0
            · subst hp0
              have hR := HR.out.sat (by rw [HSC.out]) (by rw [HSC.out]) (by rw [HSC.out]) (by rw [HSC.out]; exact hdec)
              rw [HSC.out] at hR
              have HRR := Lib.hid hR
              clear hR hno hdec
              go_wp2_with fail
              go_ret
              exact ⟨_, by rw [HRR.out]; rfl, ⟨_, _, _, HS2.out⟩, by rw [HRR.out]; rfl, (fun v st h => by rw [HRR.out] at h; cases h; rfl), ((Below.refl _ _).alloc hbase _).trans HK2.out.below⟩
            · have hR := HR.out.decide_ HP.out.lits (by rw [HSC.out]) (by rw [HSC.out]) (by rw [HSC.out]) (by rw [HSC.out]; rw [hdec]; exact hp0)
              rw [HSC.out] at hR
              simp only [hdec] at hR
              have hlt := HR.out.left_set hR.1 hR.2.1
              rw [HSC.out] at hlt
              have hok := backOK_of (st' := st2) HP.out HR.out
              have hdc := decide_any HS2.out pr (litOf_of hR.1 HLEN.out) hok.vals hok.tr (by have := HR.out.ch_le; have := HP.out.small; show c1.length ≤ _; omega)
              have hpb : (pr == 0) = false := beq_eq_false_iff_ne.2 hp0
              have HRR := Lib.hid hR.2.2
              have HLT := Lib.hid hlt
              have HDC := Lib.hid hdc
              clear hR hlt hdc hok hno hdec hp0
              go_wp2_with fail
              refine HDC.out.mono ?_
              rintro e w4 ⟨rfl, hs4, hk4⟩
              have HS4 := Lib.hid hs4
              have HK4 := Lib.hid (HK2.out.trans hk4)
              clear hs4 hk4
              go_wp2_with fail
              go_roundg (Sv.left n p.bud st2 (Sv.setL v1 pr))
              case measure => rw [← HQ.out]; exact HLT.out
              case rel => exact ⟨⟨Sv.setL v1 pr, t1 ++ [pr], ((t1.length : Int), false) :: c1, st2⟩, rfl, HS4.out, HRR.out, HK4.out⟩
          · have hdec : Sv.decision pf v1 pr = pf.getD k 0 := by unfold Sv.decision; rw [show Sv.firstOpen v1 pf = some _ from hso]
            have hlk : pf.getD k 0 ∈ pf := by rw [List.getD_eq_getElem?_getD, List.getElem?_eq_getElem hk]; exact List.getElem_mem hk
            have hne : pf.getD k 0 ≠ 0 := (HP.out.lits.pf _ hlk).1
            have hR := HR.out.decide_ HP.out.lits (by rw [HSC.out]) (by rw [HSC.out]) (by rw [HSC.out]) (by rw [HSC.out]; rw [hdec]; exact hne)
            rw [HSC.out] at hR
            simp only [hdec] at hR
            have hlt := HR.out.left_set hR.1 hR.2.1
            rw [HSC.out] at hlt
            have hok := backOK_of (st' := st2) HP.out HR.out
            have hdc := decide_any HS2.out.drew (pf.getD k 0) (litOf_of hR.1 HLEN.out) hok.vals hok.tr (by have := HR.out.ch_le; have := HP.out.small; show c1.length ≤ _; omega)
            obtain ⟨ad, rfl, hcell⟩ := Kd.at_int HPR2.out k (by omega) (by omega)
            rw [Int.toNat_natCast] at hcell
            have hrd : rd pf k = pf.getD k 0 := by rw [rd, Int.toNat_natCast]
            rw [hrd] at hcell
            generalize hlq : pf.getD k 0 = lit at *
            have HRR := Lib.hid hR.2.2
            have HLT := Lib.hid hlt
            have HDC := Lib.hid hdc
            clear hR hlt hdc hok hso hdec hne hlk hrd hlq
            go_wp2_with fail
            go_region_with (refine HDC.out.mono ?_; rintro e w4 ⟨rfl, hs4, hk4⟩; have HS4 := Lib.hid hs4; have HK4 := Lib.hid (HK2.out.drew.trans hk4); clear hs4 hk4)
            all_goals
              go_wp2_with fail
              go_roundg (Sv.left n p.bud st2 (Sv.setL v1 lit))
              case measure => rw [← HQ.out]; exact HLT.out
              case rel => exact ⟨⟨Sv.setL v1 lit, t1 ++ [lit], ((t1.length : Int), false) :: c1, st2⟩, rfl, HS4.out, HRR.out, HK4.out⟩
        · have hR := HR.out.unit HP.out.lits (by rw [HSC.out]) (by rw [HSC.out]) (by rw [HSC.out]; exact hu)
          rw [HSC.out] at hR
          have hlt := HR.out.left_set hR.1 hR.2.1
          rw [HSC.out] at hlt
          have hlen : v1.length = n := by rw [HR.out.valsq, Sv.valsOf_length]
          have hok := backOK_of (st' := st2) HP.out HR.out
          have hset := set_any HS2.out un (litOf_of hR.1 hlen) hok.vals hok.tr
          have hub : (un != 0) = true := by simp [hu]
          have HRR := Lib.hid hR.2.2
          have HLT := Lib.hid hlt
          have HSET := Lib.hid hset
          clear hR hlt hset hok hu hlen
          go_wp2_with fail
          refine HSET.out.mono ?_
          rintro e w4 ⟨rfl, hs4, hk4⟩
          have HS4 := Lib.hid hs4
          have HK4 := Lib.hid (HK2.out.trans hk4)
          clear hs4 hk4
          go_wp2_with fail
          go_roundg (Sv.left n p.bud st2 (Sv.setL v1 un))
          case measure => rw [← HQ.out]; exact HLT.out
          case rel => exact ⟨⟨Sv.setL v1 un, t1 ++ [un], c1, st2⟩, rfl, HS4.out, HRR.out, HK4.out⟩
end Go.Proofs.Ytfeablchjlkjiaa
