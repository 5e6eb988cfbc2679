/-
  OWN WORK. TXN: merge (written by tools/gen_x12.py).
-/
import Derived.Test.Qxb6500412aGreatX11
import Derived.Test.Qxb6500412aGreatMM17
import Derived.Deep.RegionWith
namespace Go.Proofs.Qxb6500412aGreat
open Go.RowKit Go.PlainAid
set_option linter.unusedSimpArgs false
set_option linter.unusedVariables false

/-- In a region that draws: the one operation that may come next calls a function, under a guard that holds. -/
theorem callHg {ops : Array Oper} {o : Oper} {a : Act} {w : World} {Q : Exit → Act → World → Prop} {md : Region.Mode} {S : World → Prop} {fuel : Nat} {listed : Array Bool} (i : Nat) (hr : Region.ready md ops listed = [i]) (hi : ops[i]? = some o) (d : Nat) (hd : o.dst = some d) (hw : Region.wanted o (yielded ops a.tmps) = true) (f : Nat) {fn : Func} (hf : Tryz.prog.funcs[f]? = some fn) (hf1 : decide (fn.name = "runtime.NumGoroutine") = false) (hf2 : fn.body.isSome = true) (cargs : Array Operand) (tys : Array TypeId) (ho : o.op = .call { callee := .value (.func f), args := cargs, argTypes := tys }) (vals : Array Value) (hv : cargs.map a.eval = vals)
    {R : Value → World → Prop} (hC : Calls Tryz.prog f vals w (fun e w' => ∃ v, e = .returned v ∧ R v w'))
    (hK : ∀ v w', R v w' → S w' ∧ wpAnyH Tryz.prog md ops Q S fuel (listed.setIfInBounds i true) (a.put (some d) v) w') : wpAnyH Tryz.prog md ops Q S (fuel + 1) listed a w := by
  rw [← hd] at hK
  refine wpAnyH_ready hr (by simp) (AllReadyH.cons hi (fun K' hK' => ?_) AllReadyH.nil)
  rw [if_pos hw]
  have hC2 : Calls Tryz.prog f vals w (fun
      | .returned v, w'' => K' (a.put o.dst v) w''
      | .panicked chain, w'' => Q (.panic chain) a w''
      | .outgrown, _ => LetsOut Q) := hC.mono (by
    rintro e w' ⟨v, rfl, h⟩
    exact hK'.out _ _ (hK v w' h).1 (fun _ => (hK v w' h).2))
  unfold Oper.wp
  have e : (execOp a.eval o).run Tryz.prog w = .ok (.enter f vals) w := by
    simp [execOp, ho, resolve, invoke, Act.eval, Result.andThen, Sem.run_bind, Sem.run_pure, Deferred.ofValue, callFunc, hv, hf]
    have hf1' : ¬ fn.name = "runtime.NumGoroutine" := by simpa using hf1
    have hf2' : ¬ fn.body = none := by
      intro h
      rw [h] at hf2
      cases hf2
    simp [hf1', hf2']
  rw [e]
  exact hC2
/-- The session has a word on the key. -/
def hitQ (l : List WCh) (tab : ByteArray) (key : Vl) : Bool := match l.find? (fun c => decide (sideP tab key c.d ≤ 0)) with
  | none => false
  | some c => decide (sideP tab key c.d = 0)
theorem FnR.hit {l : List WCh} {tab : ByteArray} {key : Vl} {p : Int} {hit : Bool} (h : FnR l tab key p hit) : hitQ l tab key = hit := by
  obtain ⟨n, rfl, hn, hlt, hc⟩ := h
  unfold hitQ
  rcases hc with ⟨rfl, rfl⟩ | ⟨c, hc, hle, rfl⟩
  · have : l.find? (fun c => decide (sideP tab key c.d ≤ 0)) = none := by
      rw [List.find?_eq_none]
      intro c hc
      obtain ⟨j, hj⟩ := List.getElem?_of_mem hc
      have := hlt j c hj (List.getElem?_eq_some_iff.mp hj).1
      simp; omega
    rw [this]
  · have hf : l.find? (fun c => decide (sideP tab key c.d ≤ 0)) = some c := by
      have hnl := (List.getElem?_eq_some_iff.mp hc).1
      have hsp : l = l.take n ++ c :: l.drop (n + 1) := by
        have := List.take_append_drop n l
        rw [List.drop_eq_getElem_cons hnl, (List.getElem?_eq_some_iff.mp hc).2] at this
        exact this.symm
      rw [hsp, List.find?_append]
      have h1 : (l.take n).find? (fun c => decide (sideP tab key c.d ≤ 0)) = none := by
        rw [List.find?_eq_none]
        intro x hx
        obtain ⟨j, hj⟩ := List.getElem?_of_mem hx
        rw [List.getElem?_take] at hj
        by_cases e : j < n
        · rw [if_pos e] at hj
          have := hlt j x hj e
          simp; omega
        · rw [if_neg e] at hj; cases hj
      rw [h1]
      simp [hle]
    rw [hf]
/-- The place from the back. -/
def insJ (f : List Vl → Bool) (out : List (List Vl)) : Nat → Nat
  | 0 => 0
  | j + 1 => if f ((out[j]?).getD []) = true then insJ f out j else j + 1
theorem insJ_le (f : List Vl → Bool) (out : List (List Vl)) : ∀ n, insJ f out n ≤ n
  | 0 => Nat.le_refl _
  | j + 1 => by
    unfold insJ
    split
    · have := insJ_le f out j; omega
    · omega
def insA (f : List Vl → Bool) (r : List Vl) (out : List (List Vl)) : List (List Vl) := out.take (insJ f out out.length) ++ r :: out.drop (insJ f out out.length)
/-- The session's own row comes in. -/
def ownIn (nm : ByteArray) (col : Int) (lo hi : Bnd) (c : WCh) : Bool := decide (c.d.tab = nm) && !c.d.gone && inB lo hi (atV c.d.row col)
def mrgN (nm : ByteArray) (pk col : Int) (lo hi : Bnd) (l : List WCh) (out : List (List Vl)) : List (List Vl) := l.foldl (fun out c => if ownIn nm col lo hi c = true then insA (fun b => ahdP c.d.row b col pk) c.d.row out else out) out
def mrgP (l : List WCh) (nm : ByteArray) (pk col : Int) (lo hi : Bnd) (rows : List (List Vl)) : List (List Vl) := mrgN nm pk col lo hi l (rows.filter (fun r => !hitQ l nm (atV r pk)))
/-- The rows' blocks are distinct. -/
def ApZ (Z : List (Value × List Vl)) : Prop := Z.Pairwise (fun a b => ∀ k, a.1.ownBlock = some k → b.1.ownBlock ≠ some k)
theorem ApZ.mid {Z : List (Value × List Vl)} (h : ApZ Z) {j zb : Nat} {u : Value} {r : List Vl} (hb : ∀ z ∈ Z, ∀ b, z.1.ownBlock = some b → b ≠ zb) (hu : u.ownBlock = some zb) : ApZ (Z.take j ++ (u, r) :: Z.drop j) := by
  unfold ApZ at *
  have hs := h
  rw [← List.take_append_drop j Z, List.pairwise_append] at hs
  rw [List.pairwise_append]
  refine ⟨hs.1, List.pairwise_cons.mpr ⟨fun z hz k hk hk2 => ?_, hs.2.1⟩, fun a ha b hb2 => ?_⟩
  · have hk' : u.ownBlock = some k := hk
    rw [hu] at hk'
    exact hb z (List.mem_of_mem_drop hz) k hk2 (Option.some.inj hk').symm
  · rcases List.mem_cons.mp hb2 with rfl | hb2
    · intro k hk hk2
      have hk' : u.ownBlock = some k := hk2
      rw [hu] at hk'
      exact hb a (List.mem_of_mem_take ha) k hk (Option.some.inj hk').symm
    · exact hs.2.2 a ha b hb2
/-- A list of rows in memory, no block of it below lo. -/
structure RL (lo : Nat) (v : Value) (Z : List (Value × List Vl)) (w : World) : Prop where
  own : w.ownsRow 0 95 1 v Z.length (Z.map (·.1))
  row : ∀ z ∈ Z, OwnV w z.1 z.2 ∧ ∀ k, z.1.ownBlock = some k → lo ≤ k
  nb : ∀ k, v.ownBlock = some k → lo ≤ k
  ap : ApZ Z
theorem RL.quiet {lo : Nat} {v : Value} {Z : List (Value × List Vl)} {w w' : World} (h : RL lo v Z w) (ho : Only (fun _ => False) w w') : RL lo v Z w' :=
  ⟨ownsRow_keep h.own ho (fun _ _ e => e), fun z hz => ⟨(h.row z hz).1.keep ho (fun _ _ e => e), (h.row z hz).2⟩, h.nb, h.ap⟩
section
variable {w w' : World} {g t : Nat} {X : Xs} {s : Nat} {lo : Nat} {rv : Value} {Zr : List (Value × List Vl)}
/-- What merge leaves. -/
def MgP (w : World) (lo : Nat) (R : List (List Vl)) (e : Ending) (w' : World) : Prop := ∃ (v : Value) (Z : List (Value × List Vl)), e = .returned v ∧ GR 95 1 w v Z.length (Z.map (·.1)) w' ∧ (∀ z ∈ Z, OwnV w' z.1 z.2 ∧ ∀ k, z.1.ownBlock = some k → lo ≤ k) ∧ Z.map (·.2) = R ∧ ApZ Z
set_option maxRecDepth 100000 in
set_option maxHeartbeats 8000000 in
theorem xmerge_any (M : XM w g t X) (hs : s < 4) (hl : (X.ws s).length ≤ 100) (hrl : ∀ c ∈ X.ws s, c.d.row.length ≤ 1000) (nm : ByteArray) (ca : Option Addr) (cn cc : Nat) (pk ix col : Int) (R : RL lo rv Zr w) (hlo : lo ≤ w.heap.size) (hr : Zr.length ≤ 100) (lh hh : Bool) (lv hv : Vl) : Calls Tryz.prog 176 #[.pointer (some ⟨g, 0, none⟩), .int .i64 (s : Int), .agg #[.string nm, .slice ca cn cc, .int .i64 pk, .int .i64 ix], rv, .int .i64 col, bdA lh lv, bdA hh hv] w (MgP w lo (mrgP (X.ws s) nm pk col (bndOf lh lv) (bndOf hh hv) (Zr.map (·.2)))) := by
  obtain ⟨i0, hi0, hz0, hz1, hz2⟩ := info_parts Tryz.infoEVals
  have o0 : Only (fun _ => False) w (((w.alloc (.cells #[.string nm, .slice ca cn cc, .int .i64 pk, .int .i64 ix] 79)).alloc (.cells #[.bool lh, .bool lv.str, .int .i64 lv.i, .string lv.s] 244)).alloc (.cells #[.bool hh, .bool hv.str, .int .i64 hv.i, .string hv.s] 244)) := (((Only.refl _ w).alloc _).alloc _).alloc _
  have NS : Has (((w.alloc (.cells #[.string nm, .slice ca cn cc, .int .i64 pk, .int .i64 ix] 79)).alloc (.cells #[.bool lh, .bool lv.str, .int .i64 lv.i, .string lv.s] 244)).alloc (.cells #[.bool hh, .bool hv.str, .int .i64 hv.i, .string hv.s] 244)) w.heap.size #[.string nm, .slice ca cn cc, .int .i64 pk, .int .i64 ix] 79 := ((Has.new w _ _).alloc _).alloc _
  have NL : Has (((w.alloc (.cells #[.string nm, .slice ca cn cc, .int .i64 pk, .int .i64 ix] 79)).alloc (.cells #[.bool lh, .bool lv.str, .int .i64 lv.i, .string lv.s] 244)).alloc (.cells #[.bool hh, .bool hv.str, .int .i64 hv.i, .string hv.s] 244)) (w.heap.size + 1) #[.bool lh, .bool lv.str, .int .i64 lv.i, .string lv.s] 244 := (Has.new' _ _ _ _ (by simp)).alloc _
  have NH : Has (((w.alloc (.cells #[.string nm, .slice ca cn cc, .int .i64 pk, .int .i64 ix] 79)).alloc (.cells #[.bool lh, .bool lv.str, .int .i64 lv.i, .string lv.s] 244)).alloc (.cells #[.bool hh, .bool hv.str, .int .i64 hv.i, .string hv.s] 244)) (w.heap.size + 2) #[.bool hh, .bool hv.str, .int .i64 hv.i, .string hv.s] 244 := Has.new' _ _ _ _ (by simp)
  have HM := hide (M.quiet o0)
  have HR := hide (R.quiet o0)
  have HNS := hide NS
  have HNL := hide NL
  have HNH := hide NH
  have HO := hide o0
  have s4 : (s : Int) < 4 := by omega
  obtain ⟨ra, rc, hrv⟩ := ownsRow_shape R.own
  obtain ⟨m, hm⟩ : ∃ m, Zr.length = m := ⟨_, rfl⟩
  rw [hm] at hrv hr
  subst hrv
  have Hm := hide hm
  obtain ⟨lb, hlb⟩ : ∃ x, bndOf lh lv = x := ⟨_, rfl⟩
  obtain ⟨hb, hhb⟩ : ∃ x, bndOf hh hv = x := ⟨_, rfl⟩
  rw [hlb, hhb]
  have Hb := hide (And.intro hlb hhb)
  unfold bdA
  clear M R o0 NS NL NH hm hlb hhb
  go_enter Tryz.func176, Tryz.ntmps176
  go_upto_region 1 with fail
  generalize (((w.alloc (.cells #[.string nm, .slice ca cn cc, .int .i64 pk, .int .i64 ix] 79)).alloc (.cells #[.bool lh, .bool lv.str, .int .i64 lv.i, .string lv.s] 244)).alloc (.cells #[.bool hh, .bool hv.str, .int .i64 hv.i, .string hv.s] 244)) = w0 at *
  have hw0 : w.heap.size ≤ w0.heap.size := (unhide HO).size
  generalize hkS : w.heap.size = kS at *
  have hkS0 : kS < w0.heap.size := (unhide HNS).lt
  go_upto_region 3 with fail
  go_loopw [15, 16, 17, 18, 19] (fun ov iv kv pv hv wr => ∃ (i : Nat) (Z : List (Value × List Vl)), iv = .int .i64 i ∧ i ≤ m ∧ GR 95 1 w0 ov Z.length (Z.map (·.1)) wr ∧ Z = (Zr.take i).filter (fun z => !hitQ (X.ws s) nm (atV z.2 pk))) (fun _ iv _ _ _ _ => m + 1 - (intOf iv).toNat)
  case atStart => exact ⟨0, [], rfl, Nat.zero_le _, GR.nil _ _ _, rfl⟩
  case round =>
    obtain ⟨i, Z, rfl, hi, G, hZ⟩ := hrel
    obtain ⟨oa, oc, rfl⟩ := ownsRow_shape G.own
    have HG := hide G
    have HZ := hide hZ
    have hZl : Z.length ≤ m := by
      rw [hZ]
      refine Nat.le_trans (List.length_filter_le _ _) ?_
      rw [List.length_take]; omega
    clear hZ
    by_cases hin : i < m
    · have a1 : decide ((i : Int) < (m : Int)) = true := decide_eq_true (by omega)
      have a1p : (i : Int) < (m : Int) := by omega
      obtain ⟨z, hz⟩ := getE (l := Zr) (i := i) (by rw [unhide Hm]; exact hin)
      have R1 := (unhide HR).quiet G.ho
      have O1 := (R1.row z (List.mem_of_getElem? hz)).1
      obtain ⟨ua, uc, hu⟩ := O1.shape
      obtain ⟨un, hun⟩ : ∃ n, z.2.length = n := ⟨_, rfl⟩
      have own2 := R1.own
      rw [unhide Hm] at own2
      obtain ⟨rg, hrg⟩ : ∃ rg, ra = some ⟨rg, 0, none⟩ := by
        rcases own2.2 with ⟨he, h0⟩ | ⟨g', cap', cur, he, _⟩
        · omega
        · have := he
          simp at this
          exact ⟨g', this.1⟩
      subst hrg
      have hc := World.ownsRow.cells own2 (g := rg) rfl i z.1 (by rw [List.getElem?_map, hz]; rfl)
      rw [addr_add, hu, hun] at hc
      have hrgl : rg < wr.heap.size := ownsRow_lt own2 rg rfl
      have hkSl : kS < wr.heap.size := ((unhide HNS).keep G.ho (fun h => h)).lt
      have p2 : wr.cell? ⟨kS, 2, none⟩ = some (.int .i64 pk) := ((unhide HNS).keep G.ho (fun h => h)).cell 2
      have p0 : wr.cell? ⟨kS, 0, none⟩ = some (.string nm) := ((unhide HNS).keep G.ho (fun h => h)).cell 0
      obtain ⟨y, hy⟩ : ∃ y, atV z.2 pk = y := ⟨_, rfl⟩
      have CA : Hid (∀ W, Only (fun _ => False) wr W → Calls Tryz.prog 257 #[.slice ua un uc, .int .i64 pk] W fun e w' => e = .returned (.agg #[.bool y.str, .int .i64 y.i, .string y.s]) ∧ Only (fun _ => False) W w') := hide (fun W ho => by
        have := xat_any (O1.keep ho (fun _ _ h => h)) pk
        rw [hu, hun, hy] at this
        exact this)
      have HK : Hid (∀ w5, Only (fun _ => False) ((wr.alloc (.cells #[.bool false, .int .i64 0, .string ⟨#[]⟩] 152)).drew) w5 → (w5.cell? ⟨wr.heap.size, 0, none⟩ = some (.bool false) ∧ w5.cell? ⟨wr.heap.size, 1, none⟩ = some (.int .i64 0) ∧ w5.cell? ⟨wr.heap.size, 2, none⟩ = some (.string ⟨#[]⟩) ∧ w5.frozen? ⟨wr.heap.size, 0, none⟩ = false ∧ w5.frozen? ⟨wr.heap.size, 1, none⟩ = false ∧ w5.frozen? ⟨wr.heap.size, 2, none⟩ = false) ∧ Has (((w5.setCell ⟨wr.heap.size, 0, none⟩ (.bool y.str)).setCell ⟨wr.heap.size, 1, none⟩ (.int .i64 y.i)).setCell ⟨wr.heap.size, 2, none⟩ (.string y.s)) wr.heap.size #[.bool y.str, .int .i64 y.i, .string y.s] 152 ∧ Only (fun _ => False) wr (((w5.setCell ⟨wr.heap.size, 0, none⟩ (.bool y.str)).setCell ⟨wr.heap.size, 1, none⟩ (.int .i64 y.i)).setCell ⟨wr.heap.size, 2, none⟩ (.string y.s))) := hide (fun w5 o5 => by
        have N1 := ((Has.new wr #[.bool false, .int .i64 0, .string ⟨#[]⟩] 152).keep ((Only.refl (fun _ => False) _).drew) (fun h => h)).keep o5 (fun h => h)
        have oA : Only (fun _ => False) wr w5 := (((Only.refl (fun _ => False) wr).alloc _).drew).trans o5 (fun _ _ e => e)
        have o3 : Only (fun y => y = wr.heap.size) w5 (((w5.setCell ⟨wr.heap.size, 0, none⟩ (.bool y.str)).setCell ⟨wr.heap.size, 1, none⟩ (.int .i64 y.i)).setCell ⟨wr.heap.size, 2, none⟩ (.string y.s)) := ((only1 _ _).trans (only1 _ _) (fun _ _ h => h)).trans (only1 _ _) (fun _ _ h => h)
        exact ⟨⟨N1.cell 0, N1.cell 1, N1.cell 2, N1.free 0, N1.free 1, N1.free 2⟩, ((N1.setCell 0 (.bool y.str)).setCell 1 (.int .i64 y.i)).setCell 2 (.string y.s), oA.fresh o3 (Nat.le_refl _)⟩)
      have CA1 := hide (unhide CA wr.drew ((Only.refl (fun _ => False) wr).drew))
      have CA2 := hide (unhide CA ((wr.alloc (.cells #[.bool false, .int .i64 0, .string ⟨#[]⟩] 152)).drew) (((Only.refl (fun _ => False) wr).alloc _).drew))
      have HI := hide (And.intro hz (And.intro hy (show z.1 = .slice ua un uc by rw [hu, hun])))
      clear hz hy hu hun O1 R1 own2 G CA
      go_upto_region 5 with fail
      go_cut [17] from 32 to 38 (fun kv wx => ∃ kb, kv = .pointer (some ⟨kb, 0, none⟩) ∧ Has wx kb #[.bool y.str, .int .i64 y.i, .string y.s] 152 ∧ Only (fun _ => False) wr wx)
      case first =>
        go_region_with (go_at_call 257; first | (refine (unhide CA1).mono ?_; rintro e w5 ⟨rfl, o5⟩; have HF2 := hide (And.intro (Has.new w5 #[.bool y.str, .int .i64 y.i, .string y.s] 152) (((Only.refl (fun _ => False) wr).drew.trans o5 (fun _ _ e => e)).alloc (.cells #[.bool y.str, .int .i64 y.i, .string y.s] 152))); clear o5) | (refine (unhide CA2).mono ?_; rintro e w5 ⟨rfl, o5⟩; obtain ⟨⟨b0, b1, b2, bf0, bf1, bf2⟩, hfin⟩ := unhide HK w5 o5; have HF2 := hide hfin; clear o5 hfin))
        all_goals
          go_wp2_with fail
          go_meet
          exact ⟨_, rfl, (unhide HF2).1, (unhide HF2).2⟩
      case rest =>
      obtain ⟨kb, rfl, hkb, o5⟩ := hcut
      generalize wc = w5 at *
      have C6 := xfind_any ((unhide HM).quiet ((unhide HG).ho.trans o5 (fun _ _ h => h))) hs (by omega) nm y
      unfold vlA at C6
      have C6 := hide C6
      have HG5 := hide ((unhide HG).far o5)
      have k0 : w5.cell? ⟨kb, 0, none⟩ = some (.bool y.str) := hkb.cell 0
      have k1 : w5.cell? ⟨kb, 1, none⟩ = some (.int .i64 y.i) := hkb.cell 1
      have k2 : w5.cell? ⟨kb, 2, none⟩ = some (.string y.s) := hkb.cell 2
      have q0 := o5.cellF p0
      have hc5 := o5.cellF hc
      clear CA1 CA2 HK hkb o5 p0 p2 hc
      go_wp2_with fail
      refine (unhide C6).mono ?_
      rintro e w6 ⟨p, hit, rfl, hf, o6⟩
      have hhit := hf.hit
      have HG6 := hide ((unhide HG5).far o6)
      have hc6 := o6.cellF hc5
      have HH := hide hhit
      clear C6 hf o6 k0 k1 k2 q0 hc5 hhit
      cases hit with
      | true =>
        have HZ2 := hide (show Z = (Zr.take (i + 1)).filter (fun z => !hitQ (X.ws s) nm (atV z.2 pk)) from by
          rw [List.take_add_one, (unhide HI).1, List.filter_append, ← unhide HZ]
          simp [(unhide HI).2.1, unhide HH])
        go_wp2_with fail
        go_roundw
        case rel => exact ⟨i + 1, Z, by go_num, by omega, unhide HG6, unhide HZ2⟩
        case measure => simp [intOf]; omega
      | false =>
        have own1 := (unhide HG6).own
        have HP := hide (fun (v' : Value) (w9 : World) (ob : Obj) h1 h2 h3 => GR.push (es := [z.1]) (v' := v') (w' := w9) (o := ob) (n := Z.length + 1) (unhide HG6) h1 h2 h3)
        rw [(unhide HI).2.2] at HP
        have HZ2 := hide (show Z ++ [z] = (Zr.take (i + 1)).filter (fun z => !hitQ (X.ws s) nm (atV z.2 pk)) from by
          rw [List.take_add_one, (unhide HI).1, List.filter_append, ← unhide HZ]
          simp [(unhide HI).2.1, unhide HH])
        have h51 : Z.length ≤ 100 := by omega
        go_wp2_with (at_builtin; refine wpList_append2 _ rfl _ _ 50 rfl 95 i0 _ 1 24 Tryz.underlying50 hi0 hz0 hz1 hz2 rfl (by decide) _ _ _ rfl (own1.alloc _) ⟨w6.heap.size, 0, none⟩ 1 1 [.slice ua un uc] rfl rfl ?c1 ?c2 ?c3 ?c4 ?_)
        case c1 => exact news_ok _ [.slice ua un uc] 95 _ rfl
        case c2 => intro u hu; simp at hu; subst hu; rfl
        case c3 => unfold maxLen; omega
        case c4 => omega
        intro v' w9 hown hgrow hwhere
        have HQ := hide (show GR 95 1 w0 v' (Z ++ [z]).length ((Z ++ [z]).map (·.1)) w9 from by
          rw [List.length_append, List.map_append]
          have := unhide HP v' w9 _ hown hgrow hwhere
          simp only [List.length_singleton, List.map_cons, List.map_nil, (unhide HI).2.2]
          exact this)
        clear hown hgrow hwhere own1 HP
        go_wp2_with fail
        go_roundw
        case rel => exact ⟨i + 1, Z ++ [z], by go_num, by omega, unhide HQ, unhide HZ2⟩
        case measure => simp [intOf]; omega
    · obtain rfl : i = m := by omega
      have a1 : decide ((i : Int) < (i : Int)) = false := by simp
      generalize hwr : wr = w1 at *
      clear hwr
      obtain ⟨n, hn⟩ : ∃ n, (X.ws s).length = n := ⟨_, rfl⟩
      rw [hn] at hl
      have Hn := hide hn
      have hZ2 : Z.map (·.2) = (Zr.map (·.2)).filter (fun r => !hitQ (X.ws s) nm (atV r pk)) := by
        rw [unhide HZ, List.take_of_length_le (by rw [unhide Hm]; omega), List.filter_map]
        rfl
      have hrow : ∀ z ∈ Z, OwnV w1 z.1 z.2 ∧ ∀ k, z.1.ownBlock = some k → lo ≤ k := fun z hz => by
        have hz' : z ∈ Zr := by
          rw [unhide HZ] at hz
          exact List.mem_of_mem_take (List.mem_filter.mp hz).1
        exact ((unhide HR).quiet G.ho).row z hz'
      have HB := hide hZ2
      have HRow := hide hrow
      have HAp := hide (show ApZ Z from by rw [unhide HZ]; exact (unhide HR).ap.sublist (List.filter_sublist.trans (List.take_sublist _ _)))
      have hwsh := ((unhide HM).ws s hs).shape
      obtain ⟨wa, wcap, hwv⟩ := hwsh
      rw [hn] at hwv
      have Hwv := hide hwv
      clear hZ2 hrow hn hwv G HZ
      go_upto_region 10 with fail
      go_loopw [15, 20, 21, 22, 23, 24, 25] (fun ov pv _ _ _ _ _ wr => ∃ (p : Nat) (Z : List (Value × List Vl)), pv = .int .i64 p ∧ p ≤ n ∧ GR 95 1 w0 ov Z.length (Z.map (·.1)) wr ∧ (∀ z ∈ Z, OwnV wr z.1 z.2 ∧ ∀ k, z.1.ownBlock = some k → lo ≤ k) ∧ Z.map (·.2) = mrgN nm pk col lb hb ((X.ws s).take p) ((Zr.map (·.2)).filter (fun r => !hitQ (X.ws s) nm (atV r pk))) ∧ Z.length ≤ 100 + p ∧ ApZ Z) (fun _ pv _ _ _ _ _ _ => n + 1 - (intOf pv).toNat)
      case atStart => exact ⟨0, Z, rfl, Nat.zero_le _, unhide HG, unhide HRow, unhide HB, by omega, unhide HAp⟩
      case round =>
        clear HG HRow HB HAp
        obtain ⟨p, Z, rfl, hp, G, hrow, hQ, hZl2, hAp⟩ := hrel
        have HAp := hide hAp
        clear hAp
        obtain ⟨oa, oc, rfl⟩ := ownsRow_shape G.own
        have HG := hide G
        have HRow := hide hrow
        have HQ := hide hQ
        have M1 := (unhide HM).quiet G.ho
        have c0 := M1.has.wset hs
        have gl := M1.has.lt
        rw [unhide Hwv] at c0
        clear hQ hrow
        by_cases hpn : p < n
        · have a2 : decide ((p : Int) < (n : Int)) = true := decide_eq_true (by omega)
          have a2p : (p : Int) < (n : Int) := by omega
          obtain ⟨x, hx⟩ := getE (l := X.ws s) (i := p) (by rw [unhide Hn]; exact hpn)
          have W1 := M1.ws s hs
          rw [unhide Hwv] at W1
          obtain ⟨b, rfl, e0, e1, e2, e3, e4, e5⟩ := W1.at_ hx
          have OX := W1.row x (List.mem_of_getElem? hx)
          obtain ⟨xa, xc, hxu⟩ := OX.shape
          obtain ⟨xn, hxn⟩ : ∃ k, x.d.row.length = k := ⟨_, rfl⟩
          rw [hxn] at hxu
          rw [hxu] at e5 OX
          have bl : b < wr.heap.size := ownsRow_lt W1.own b rfl
          have NS1 := (unhide HNS).keep G.ho (fun h => h)
          have p0 : wr.cell? ⟨kS, 0, none⟩ = some (.string nm) := NS1.cell 0
          have kSl := NS1.lt
          have o2 : Only (fun _ => False) wr (wr.alloc (.cells #[.string x.d.tab, .bool x.d.key.str, .int .i64 x.d.key.i, .string x.d.key.s, .bool x.d.gone, .slice xa xn xc] 285)) := (Only.refl _ wr).alloc _
          have N2 := Has.new wr #[.string x.d.tab, .bool x.d.key.str, .int .i64 x.d.key.i, .string x.d.key.s, .bool x.d.gone, .slice xa xn xc] 285
          have HX := hide (And.intro hx (And.intro hxu hxn))
          have HG2 := hide (G.far o2)
          have HR2 := hide (show ∀ z ∈ Z, OwnV (wr.alloc (.cells #[.string x.d.tab, .bool x.d.key.str, .int .i64 x.d.key.i, .string x.d.key.s, .bool x.d.gone, .slice xa xn xc] 285)) z.1 z.2 ∧ ∀ k, z.1.ownBlock = some k → lo ≤ k from fun z hz => ⟨(unhide HRow z hz).1.keep o2 (fun _ _ h => h), (unhide HRow z hz).2⟩)
          have HO2 := hide (OX.keep o2 (fun _ _ h => h))
          have HN2 := hide N2
          have HNS2 := hide (NS1.keep o2 (fun h => h))
          have HNL2 := hide (((unhide HNL).keep G.ho (fun h => h)).keep o2 (fun h => h))
          have HNH2 := hide (((unhide HNH).keep G.ho (fun h => h)).keep o2 (fun h => h))
          have hst : ∀ B : Bool, ownIn nm col lb hb x = B → mrgN nm pk col lb hb ((X.ws s).take (p + 1)) ((Zr.map (·.2)).filter (fun r => !hitQ (X.ws s) nm (atV r pk))) = if B = true then insA (fun b => ahdP x.d.row b col pk) x.d.row (Z.map (·.2)) else Z.map (·.2) := fun B hB => by
            unfold mrgN
            rw [List.take_add_one, hx, List.foldl_append]
            simp only [Option.toList_some, List.foldl_cons, List.foldl_nil, hB]
            rw [show (List.foldl _ _ ((X.ws s).take p)) = Z.map (·.2) from (unhide HQ).symm]
          have Hst := hide hst
          clear hst M1 W1 OX NS1 G N2 hx hxu hxn HG HRow
          go_upto_region 13 with fail
          generalize wr.alloc (.cells #[.string x.d.tab, .bool x.d.key.str, .int .i64 x.d.key.i, .string x.d.key.s, .bool x.d.gone, .slice xa xn xc] 285) = w2 at *
          generalize hkc : wr.heap.size = kc at *
          clear hkc o2 e0 e1 e2 e3 e4 e5 p0 c0
          have t0 : w2.cell? ⟨kc, 0, none⟩ = some (.string x.d.tab) := (unhide HN2).cell 0
          have t4 : w2.cell? ⟨kc, 4, none⟩ = some (.bool x.d.gone) := (unhide HN2).cell 4
          have t5 : w2.cell? ⟨kc, 5, none⟩ = some (.slice xa xn xc) := (unhide HN2).cell 5
          have p0 : w2.cell? ⟨kS, 0, none⟩ = some (.string nm) := (unhide HNS2).cell 0
          have HGn := HG2
          have HRn := HR2
          by_cases htab : x.d.tab = nm
          · have b1 := seq_t htab
            obtain ⟨gn, hgn⟩ : ∃ b : Bool, x.d.gone = b := ⟨_, rfl⟩
            rw [hgn] at t4
            cases gn with
            | true =>
              have HQn := hide (show Z.map (·.2) = mrgN nm pk col lb hb ((X.ws s).take (p + 1)) ((Zr.map (·.2)).filter (fun r => !hitQ (X.ws s) nm (atV r pk))) from by
                rw [unhide Hst false (by unfold ownIn; rw [hgn]; simp), if_neg (by simp)])
              clear htab hgn
              go_wp2_with fail
              go_roundw
              case rel => exact ⟨p + 1, Z, by go_num, by omega, unhide HGn, unhide HRn, unhide HQn, by omega, unhide HAp⟩
              case measure => simp [intOf]; omega
            | false =>
              have C3 := xat_any (unhide HO2) col
              obtain ⟨y, hy⟩ : ∃ y, atV x.d.row col = y := ⟨_, rfl⟩
              rw [hy] at C3
              unfold vlA at C3
              have C3 := hide C3
              have hown : ownIn nm col lb hb x = inB lb hb y := by unfold ownIn; rw [hgn, hy, htab]; simp
              have HOI := hide hown
              clear hgn htab hown hy
              go_wp2_with fail
              refine (unhide C3).mono ?_
              rintro e w3 ⟨rfl, o3⟩
              have o4 : Only (fun _ => False) w3 (w3.alloc (.cells #[.bool y.str, .int .i64 y.i, .string y.s] 152)) := (Only.refl _ w3).alloc _
              have o24 := o3.trans o4 (fun _ _ h => h)
              have HNY := hide (Has.new w3 #[.bool y.str, .int .i64 y.i, .string y.s] 152)
              have HG4 := hide ((unhide HG2).far o24)
              have HR4 := hide (show ∀ z ∈ Z, OwnV (w3.alloc (.cells #[.bool y.str, .int .i64 y.i, .string y.s] 152)) z.1 z.2 ∧ ∀ k, z.1.ownBlock = some k → lo ≤ k from fun z hz => ⟨(unhide HR2 z hz).1.keep o24 (fun _ _ h => h), (unhide HR2 z hz).2⟩)
              have HO4 := hide ((unhide HO2).keep o24 (fun _ _ h => h))
              have HN4 := hide ((unhide HN2).keep o24 (fun h => h))
              have HNS4 := hide ((unhide HNS2).keep o24 (fun h => h))
              have HNL4 := hide ((unhide HNL2).keep o24 (fun h => h))
              have HNH4 := hide ((unhide HNH2).keep o24 (fun h => h))
              have C4 := xwithin_any y lh hh lv hv (w3.alloc (.cells #[.bool y.str, .int .i64 y.i, .string y.s] 152))
              rw [(unhide Hb).1, (unhide Hb).2] at C4
              obtain ⟨bI, hbI⟩ : ∃ b : Bool, inB lb hb y = b := ⟨_, rfl⟩
              rw [hbI] at C4
              unfold vlA bdA at C4
              have C4 := hide C4
              have HbI := hide (show ownIn nm col lb hb x = bI by rw [unhide HOI, hbI])
              clear C3 o3 o4 o24 t0 t4 t5 p0 hbI HGn HRn HG2 HR2 HO2 HN2 HNS2 HNL2 HNH2
              go_upto_region 16 with fail
              generalize w3.alloc (.cells #[.bool y.str, .int .i64 y.i, .string y.s] 152) = w4 at *
              generalize hky : w3.heap.size = ky at *
              clear hky
              have y0 : w4.cell? ⟨ky, 0, none⟩ = some (.bool y.str) := (unhide HNY).cell 0
              have y1 : w4.cell? ⟨ky, 1, none⟩ = some (.int .i64 y.i) := (unhide HNY).cell 1
              have y2 : w4.cell? ⟨ky, 2, none⟩ = some (.string y.s) := (unhide HNY).cell 2
              have l0 : w4.cell? ⟨kS + 1, 0, none⟩ = some (.bool lh) := (unhide HNL4).cell 0
              have l1 : w4.cell? ⟨kS + 1, 1, none⟩ = some (.bool lv.str) := (unhide HNL4).cell 1
              have l2 : w4.cell? ⟨kS + 1, 2, none⟩ = some (.int .i64 lv.i) := (unhide HNL4).cell 2
              have l3 : w4.cell? ⟨kS + 1, 3, none⟩ = some (.string lv.s) := (unhide HNL4).cell 3
              have h0 : w4.cell? ⟨kS + 1 + 1, 0, none⟩ = some (.bool hh) := (unhide HNH4).cell 0
              have h1 : w4.cell? ⟨kS + 1 + 1, 1, none⟩ = some (.bool hv.str) := (unhide HNH4).cell 1
              have h2 : w4.cell? ⟨kS + 1 + 1, 2, none⟩ = some (.int .i64 hv.i) := (unhide HNH4).cell 2
              have h3 : w4.cell? ⟨kS + 1 + 1, 3, none⟩ = some (.string hv.s) := (unhide HNH4).cell 3
              go_wp2_with fail
              refine (unhide C4).mono ?_
              rintro e w5 ⟨rfl, o5⟩
              have HG5 := hide ((unhide HG4).far o5)
              have HR5 := hide (show ∀ z ∈ Z, OwnV w5 z.1 z.2 ∧ ∀ k, z.1.ownBlock = some k → lo ≤ k from fun z hz => ⟨(unhide HR4 z hz).1.keep o5 (fun _ _ h => h), (unhide HR4 z hz).2⟩)
              have HO5 := hide ((unhide HO4).keep o5 (fun _ _ h => h))
              have HN5 := hide ((unhide HN4).keep o5 (fun h => h))
              have HNS5 := hide ((unhide HNS4).keep o5 (fun h => h))
              clear C4 o5 y0 y1 y2 l0 l1 l2 l3 h0 h1 h2 h3 HG4 HR4 HO4 HN4 HNS4 HNL4 HNH4 HNY
              cases bI with
              | false =>
                have HGn := HG5
                have HRn := HR5
                have HQn := hide (show Z.map (·.2) = mrgN nm pk col lb hb ((X.ws s).take (p + 1)) ((Zr.map (·.2)).filter (fun r => !hitQ (X.ws s) nm (atV r pk))) from by
                  rw [unhide Hst false (unhide HbI), if_neg (by simp)])
                go_wp2_with fail
                go_roundw
                case rel => exact ⟨p + 1, Z, by go_num, by omega, unhide HGn, unhide HRn, unhide HQn, by omega, unhide HAp⟩
                case measure => simp [intOf]; omega
              | true =>
                have hxl : x.d.row.length ≤ 1000 := hrl x (List.mem_of_getElem? (unhide HX).1)
                have CC := mcloneRow_any (unhide HO5) hxl
                rw [(unhide HX).2.2] at CC
                have CC := hide CC
                have t5 : w5.cell? ⟨kc, 5, none⟩ = some (.slice xa xn xc) := (unhide HN5).cell 5
                have kcl := (unhide HN5).lt
                clear hxl
                go_wp2_with fail
                refine (unhide CC).mono ?_
                rintro e w6 ⟨zb, rfl, O6, hzb, o6⟩
                have HG6 := hide ((unhide HG5).far o6)
                have own1 := (unhide HG6).own
                have HP := hide (fun (v' : Value) (w9 : World) (ob : Obj) h1 h2 h3 => GR.push (es := [.slice (some ⟨zb, 0, none⟩) xn xn]) (v' := v') (w' := w9) (o := ob) (n := Z.length + 1) (unhide HG6) h1 h2 h3)
                have HR6 := hide (show ∀ z ∈ Z, OwnV w6 z.1 z.2 ∧ ∀ k, z.1.ownBlock = some k → lo ≤ k from fun z hz => ⟨(unhide HR5 z hz).1.keep o6 (fun _ _ h => h), (unhide HR5 z hz).2⟩)
                have HNS6 := hide ((unhide HNS5).keep o6 (fun h => h))
                have HO6 := hide (And.intro O6 hzb)
                have HZb := hide (show ∀ z ∈ Z, ∀ b, z.1.ownBlock = some b → b ≠ zb from fun z hz b hb => by have := (unhide HR5 z hz).1.lt b hb; omega)
                have hkS5 := (unhide HNS5).lt
                obtain ⟨k, hk⟩ : ∃ k, Z.length = k := ⟨_, rfl⟩
                have Hk := hide hk
                rw [hk] at own1 hZl2 HP ⊢
                have hk2 : k ≤ 200 := by omega
                clear CC t5 O6 o6 HG5 HR5 HNS5 HO5 HN5 hk
                go_wp2_with (at_builtin; refine wpList_append2 _ rfl _ _ 50 rfl 95 i0 _ 1 24 Tryz.underlying50 hi0 hz0 hz1 hz2 rfl (by decide) _ _ _ rfl (own1.alloc _) ⟨w6.heap.size, 0, none⟩ 1 1 [.slice (some ⟨zb, 0, none⟩) xn xn] rfl rfl ?c1 ?c2 ?c3 ?c4 ?_)
                case c1 => exact news_ok _ [.slice (some ⟨zb, 0, none⟩) xn xn] 95 _ rfl
                case c2 => intro u hu; simp at hu; subst hu; rfl
                case c3 => unfold maxLen; omega
                case c4 => omega
                intro v' w9 hown hgrow hwhere
                obtain ⟨tg, cap6, hv6⟩ : ∃ tg cap6, v' = .slice (some ⟨tg, 0, none⟩) (k + 1) cap6 := by
                  obtain ⟨g, c, hv, _⟩ := hown.form (by omega)
                  exact ⟨g, c, hv⟩
                subst hv6
                have G9 := unhide HP (.slice (some ⟨tg, 0, none⟩) (k + 1) cap6) w9 _ hown hgrow hwhere
                have og : Only (fun b => (Value.slice oa k oc).ownBlock = some b) w6 w9 := ((Only.refl _ w6).alloc _).grown hgrow (fun b hb _ => hb)
                have kp : ∀ {a : Value} {r : List Vl}, OwnV w6 a r → OwnV w9 a r := fun {a r} O => O.keep og (fun b hb e => by
                  obtain ⟨cc, hc⟩ := ownsRow_has own1 e
                  exact ownsRow_ne O hc (by decide) b hb rfl)
                have htg : w0.heap.size ≤ tg := G9.hb tg rfl
                have HR9 := hide (show ∀ z ∈ Z, OwnV w9 z.1 z.2 ∧ ∀ k, z.1.ownBlock = some k → lo ≤ k from fun z hz => ⟨kp (unhide HR6 z hz).1, (unhide HR6 z hz).2⟩)
                have HO9 := hide (kp (unhide HO6).1)
                have HNS9 := hide ((unhide HNS6).keep og (fun e => ownsRow_ne own1 (unhide HNS6) (by decide) kS e rfl))
                have tgT : ∀ {w' : World} {a : Value} {r : List Vl}, OwnV w' a r → (∃ c, Has w' tg c 95) → ∀ b, a.ownBlock = some b → b ≠ tg := fun {w' a r} O ⟨c, hc⟩ b hb e => ownsRow_ne O hc (by decide) b hb e
                have HEX : Hid (∀ (wr : World) (j : Nat) (y : Value), wr.ownsRow 0 95 1 (.slice (some ⟨tg, 0, none⟩) (k + 1) cap6) (k + 1) ((Z.map (·.1)).take j ++ y :: (Z.map (·.1)).drop j) → insJ (fun b => ahdP x.d.row b col pk) (Z.map (·.2)) k = j → j ≤ k → Only (fun b => b = tg) w9 wr → ∃ Z' : List (Value × List Vl), Z'.length = k + 1 ∧ GR 95 1 w0 (.slice (some ⟨tg, 0, none⟩) (k + 1) cap6) Z'.length (Z'.map (·.1)) (wr.setCell ⟨tg, j, none⟩ (.slice (some ⟨zb, 0, none⟩) xn xn)) ∧ (∀ z ∈ Z', OwnV (wr.setCell ⟨tg, j, none⟩ (.slice (some ⟨zb, 0, none⟩) xn xn)) z.1 z.2 ∧ ∀ b, z.1.ownBlock = some b → lo ≤ b) ∧ Z'.map (·.2) = mrgN nm pk col lb hb ((X.ws s).take (p + 1)) ((Zr.map (·.2)).filter (fun r => !hitQ (X.ws s) nm (atV r pk))) ∧ ApZ Z') := hide (fun wr j y RW hins hjk oW => by
                  have hZk := unhide Hk
                  have hV : (Z.map (·.1)).length = k := by rw [List.length_map, hZk]
                  have o1 : Only (fun b => b = tg) wr (wr.setCell ⟨tg, j, none⟩ (.slice (some ⟨zb, 0, none⟩) xn xn)) := only1 _ _
                  have oF := oW.trans o1 (fun _ _ h => h)
                  have R2 := gbrowset (i := j) RW (.slice (some ⟨zb, 0, none⟩) xn xn)
                  rw [rmid_set (by omega)] at R2
                  have hmap : (Z.take j ++ ((.slice (some ⟨zb, 0, none⟩) xn xn : Value), x.d.row) :: Z.drop j).map (·.1) = (Z.map (·.1)).take j ++ (.slice (some ⟨zb, 0, none⟩) xn xn) :: (Z.map (·.1)).drop j := by
                    rw [List.map_append, List.map_cons, List.map_take, List.map_drop]
                  have hlen : (Z.take j ++ ((.slice (some ⟨zb, 0, none⟩) xn xn : Value), x.d.row) :: Z.drop j).length = k + 1 := by rw [rmid_len (by omega), hZk]
                  have hT9 : ∃ c, Has w9 tg c 95 := ownsRow_has G9.own rfl
                  refine ⟨Z.take j ++ ((.slice (some ⟨zb, 0, none⟩) xn xn : Value), x.d.row) :: Z.drop j, hlen, ⟨?_, G9.hb, G9.ho.trans oF (fun b hb e => by have e' : b = tg := e; omega)⟩, fun z hz => ?_, ?_, ApZ.mid (unhide HAp) (unhide HZb) rfl⟩
                  · rw [hlen, hmap]; exact R2
                  · rcases rmid_mem hz with h | h
                    · exact ⟨(unhide HR9 z h).1.keep oF (fun b hb e => tgT (unhide HR9 z h).1 hT9 b hb e), (unhide HR9 z h).2⟩
                    · subst h
                      refine ⟨(unhide HO9).keep oF (fun b hb e => tgT (unhide HO9) hT9 b hb e), fun b hb => ?_⟩
                      simp [Value.ownBlock] at hb
                      have := (unhide HO6).2
                      omega
                  · rw [unhide Hst true (unhide HbI), if_pos rfl]
                    unfold insA
                    rw [List.length_map, hZk, hins, List.map_append, List.map_cons, List.map_take, List.map_drop])
                have HG9 := hide G9
                have hwn : IntKind.i64.wrap (((k + 1 : Nat) : Int) - 1) = (k : Int) := by rw [IntWalk.i64_in] <;> omega
                have hwn' : IntKind.i64.wrap ((k : Int) + 1 - 1) = (k : Int) := by rw [IntWalk.i64_in] <;> omega
                clear hown hgrow hwhere own1 HP og kp G9 HR6 HNS6
                go_upto_region 21 with fail
                go_loopw [25] (fun jv wr => ∃ (j : Nat) (y : Value), jv = .int .i64 j ∧ j ≤ k ∧ wr.ownsRow 0 95 1 (.slice (some ⟨tg, 0, none⟩) (k + 1) cap6) (k + 1) ((Z.map (·.1)).take j ++ y :: (Z.map (·.1)).drop j) ∧ insJ (fun b => ahdP x.d.row b col pk) (Z.map (·.2)) k = insJ (fun b => ahdP x.d.row b col pk) (Z.map (·.2)) j ∧ Only (fun b => b = tg) w9 wr) (fun jv _ => (intOf jv).toNat)
                case atStart =>
                  refine ⟨k, .slice (some ⟨zb, 0, none⟩) xn xn, rfl, Nat.le_refl _, ?_, rfl, Only.refl _ _⟩
                  have hV : (Z.map (·.1)).length = k := by rw [List.length_map, unhide Hk]
                  rw [List.take_of_length_le (by omega), List.drop_of_length_le (by omega)]
                  exact (unhide HG9).own
                case round =>
                  obtain ⟨j, y, rfl, hjk, RW, hins, oW⟩ := hrel
                  have hV : (Z.map (·.1)).length = k := by rw [List.length_map, unhide Hk]
                  have hTw : ∃ c, Has wr tg c 95 := ownsRow_has RW rfl
                  have hT9 : ∃ c, Has w9 tg c 95 := ownsRow_has (unhide HG9).own rfl
                  have OR := (unhide HO9).keep oW (fun b hb e => tgT (unhide HO9) hT9 b hb e)
                  have p2 : wr.cell? ⟨kS, 2, none⟩ = some (.int .i64 pk) := ((unhide HNS9).keep oW (fun e => by have e' : kS = tg := e; omega)).cell 2
                  have tgl : tg < wr.heap.size := ownsRow_lt RW tg rfl
                  have d1 := World.ownsRow.cells RW (g := tg) rfl j y (by rw [rmid_get (by omega), if_neg (by omega), if_pos rfl])
                  rw [addr_add] at d1
                  have f1 := gownFree RW j
                  have hjI : (j : Int) < ((k + 1 : Nat) : Int) := by omega
                  have hjI' : (j : Int) < (k : Int) + 1 := by omega
                  have HIns := hide hins
                  have HOW := hide oW
                  have HRW := hide RW
                  clear hwn hwn'
                  by_cases hj : 0 < j
                  · obtain ⟨q, hjq⟩ : ∃ q, j = q + 1 := ⟨j - 1, by omega⟩
                    obtain ⟨z, hz⟩ := getE (l := Z) (i := q) (by rw [unhide Hk]; omega)
                    have OZ := ((unhide HR9 z (List.mem_of_getElem? hz)).1).keep oW (fun b hb e => tgT (unhide HR9 z (List.mem_of_getElem? hz)).1 hT9 b hb e)
                    obtain ⟨za, zc, hzu⟩ := OZ.shape
                    obtain ⟨zn, hzn⟩ : ∃ n, z.2.length = n := ⟨_, rfl⟩
                    rw [hzn] at hzu
                    have hVq : (Z.map (·.1))[q]? = some z.1 := by rw [List.getElem?_map, hz]; rfl
                    have d0 := World.ownsRow.cells RW (g := tg) rfl q z.1 (by rw [rmid_get (by omega), if_pos (by omega)]; exact hVq)
                    rw [addr_add, hzu] at d0
                    have CH := xahead_any (OR.keep ((Only.refl (fun _ => False) wr).drew) (fun _ _ h => h)) (OZ.keep ((Only.refl (fun _ => False) wr).drew) (fun _ _ h => h)) col pk
                    rw [hzu] at CH
                    obtain ⟨B, hB⟩ : ∃ b : Bool, ahdP x.d.row z.2 col pk = b := ⟨_, rfl⟩
                    rw [hB] at CH
                    have CH := hide CH
                    have hgo : ((Z.map (·.2))[q]?).getD [] = z.2 := by rw [List.getElem?_map, hz]; rfl
                    have HJ := hide (And.intro hjq (And.intro hzu (And.intro hVq (show insJ (fun b => ahdP x.d.row b col pk) (Z.map (·.2)) (q + 1) = if B = true then insJ (fun b => ahdP x.d.row b col pk) (Z.map (·.2)) q else q + 1 from by
                      show (if ahdP x.d.row (((Z.map (·.2))[q]?).getD []) col pk = true then _ else _) = _
                      rw [hgo, hB]))))
                    have dj : decide ((j : Int) > 0) = true := decide_eq_true (by omega)
                    have dj' : decide ((0 : Int) < (j : Int)) = true := decide_eq_true (by omega)
                    have djn : decide (0 < j) = true := decide_eq_true hj
                    have hwj : IntKind.i64.wrap ((j : Int) - 1) = (q : Int) := by rw [IntWalk.i64_in] <;> omega
                    have hq1 : (q : Int) < (k : Int) + 1 := by omega
                    have hq1' : (q : Int) < ((k + 1 : Nat) : Int) := by omega
                    have hj1 : (j : Int) - 1 < ((k + 1 : Nat) : Int) := by omega
                    have hj1' : (j : Int) - 1 < (k : Int) + 1 := by omega
                    have hj0 : (0 : Int) ≤ (j : Int) - 1 := by omega
                    have hj200 : j ≤ 200 := by omega
                    clear RW hins oW OR OZ hTw hT9 hz hzu hzn hVq hB hgo hjq hV hj1 hj1' hj0
                    go_upto_region 21 with fail
                    go_cut [119] from 106 to 119 (fun bv wx => bv = .bool B ∧ Only (fun _ => False) wr wx)
                    case first =>
                      refine wp_region_held_drew (S := (fun w' => w'.cell? ⟨tg, q, none⟩ = some (.slice za zn zc) ∧ w'.cell? ⟨kS, 2, none⟩ = some (.int .i64 pk))) (by kernel_rfl) ⟨d0, p2⟩ (fun hH0 => ?_)
                      refine takeH 0 106 (v := ?vv1) rfl rfl (by kernel_rfl) (by kernel_rfl) (by kernel_rfl) (fun _ _ _ h => h) (Or.inl ⟨by rfl, ?hv1⟩) hH0 ?rv1
                      case hv1 => (intro w hSw; clear hSw; go_simp; (try with_reducible rfl))
                      case rv1 =>
                      try simp only [Act.put, List.setIfInBounds_toArray, List.set_cons_zero, List.set_cons_succ]
                      refine takeH 1 107 (v := ?vv2) rfl rfl (by kernel_rfl) (by kernel_rfl) (by kernel_rfl) (fun _ _ _ h => h) (Or.inl ⟨by rfl, ?hv2⟩) hH0 ?rv2
                      case hv2 => (intro w hSw; clear hSw; go_simp; (try with_reducible rfl))
                      case rv2 =>
                      try simp only [Act.put, List.setIfInBounds_toArray, List.set_cons_zero, List.set_cons_succ]
                      refine takeH 2 108 (v := ?vv3) rfl rfl (by kernel_rfl) (by kernel_rfl) (by kernel_rfl) (fun _ _ _ h => h) (Or.inl ⟨by rfl, ?hv3⟩) hH0 ?rv3
                      case hv3 => (intro w hSw; clear hSw; go_simp; (try with_reducible rfl))
                      case rv3 =>
                      try simp only [Act.put, List.setIfInBounds_toArray, List.set_cons_zero, List.set_cons_succ]
                      refine takeH 3 109 (v := ?vv4) rfl rfl (by kernel_rfl) (by kernel_rfl) (by kernel_rfl) (fun _ _ _ h => h) (Or.inl ⟨by rfl, ?hv4⟩) hH0 ?rv4
                      case hv4 => (intro w hSw; clear hSw; go_simp; (try with_reducible rfl))
                      case rv4 =>
                      try simp only [Act.put, List.setIfInBounds_toArray, List.set_cons_zero, List.set_cons_succ]
                      refine takeH 4 110 (v := ?vv5) rfl rfl (by kernel_rfl) (by kernel_rfl) (by kernel_rfl) (fun _ _ _ h => h) (Or.inl ⟨by rfl, ?hv5⟩) hH0 ?rv5
                      case hv5 => (intro w hSw; clear hSw; go_simp; (try with_reducible rfl))
                      case rv5 =>
                      try simp only [Act.put, List.setIfInBounds_toArray, List.set_cons_zero, List.set_cons_succ]
                      refine takeH 5 111 (v := ?vv6) rfl rfl (by kernel_rfl) (by kernel_rfl) (by kernel_rfl) (fun _ _ _ h => h) (Or.inl ⟨by rfl, ?hv6⟩) hH0 ?rv6
                      case hv6 => (intro w hSw; clear hSw; go_simp; (try with_reducible rfl))
                      case rv6 =>
                      try simp only [Act.put, List.setIfInBounds_toArray, List.set_cons_zero, List.set_cons_succ]
                      refine takeH 6 112 (v := ?vv7) rfl rfl (by kernel_rfl) (by kernel_rfl) (by kernel_rfl) (fun _ _ _ h => h) (Or.inl ⟨by rfl, ?hv7⟩) hH0 ?rv7
                      case hv7 => (intro w hSw; clear hSw; go_simp; (try with_reducible rfl))
                      case rv7 =>
                      try simp only [Act.put, List.setIfInBounds_toArray, List.set_cons_zero, List.set_cons_succ]
                      refine takeH 7 113 (v := ?vv8) rfl rfl (by kernel_rfl) (by kernel_rfl) (by kernel_rfl) (fun _ _ _ h => h) (Or.inl ⟨by rfl, ?hv8⟩) hH0 ?rv8
                      case hv8 => (intro w hSw; clear hSw; go_simp; (try with_reducible rfl))
                      case rv8 =>
                      try simp only [Act.put, List.setIfInBounds_toArray, List.set_cons_zero, List.set_cons_succ]
                      refine takeH 8 114 (v := ?vv9) rfl rfl (by kernel_rfl) (by kernel_rfl) (by kernel_rfl) (fun _ _ _ h => h) (Or.inl ⟨by rfl, ?hv9⟩) hH0 ?rv9
                      case hv9 => (intro w hSw; obtain ⟨s0, s1⟩ := hSw; go_simp; (try with_reducible rfl))
                      case rv9 =>
                      try simp only [Act.put, List.setIfInBounds_toArray, List.set_cons_zero, List.set_cons_succ]
                      refine takeH 9 115 (v := ?vv10) rfl rfl (by kernel_rfl) (by kernel_rfl) (by kernel_rfl) (fun _ _ _ h => h) (Or.inl ⟨by rfl, ?hv10⟩) hH0 ?rv10
                      case hv10 => (intro w hSw; clear hSw; go_simp; (try with_reducible rfl))
                      case rv10 =>
                      try simp only [Act.put, List.setIfInBounds_toArray, List.set_cons_zero, List.set_cons_succ]
                      refine takeH 10 116 (v := ?vv11) rfl rfl (by kernel_rfl) (by kernel_rfl) (by kernel_rfl) (fun _ _ _ h => h) (Or.inl ⟨by rfl, ?hv11⟩) hH0 ?rv11
                      case hv11 => (intro w hSw; clear hSw; go_simp; (try with_reducible rfl))
                      case rv11 =>
                      try simp only [Act.put, List.setIfInBounds_toArray, List.set_cons_zero, List.set_cons_succ]
                      refine takeH 11 117 (v := ?vv12) rfl rfl (by kernel_rfl) (by kernel_rfl) (by kernel_rfl) (fun _ _ _ h => h) (Or.inl ⟨by rfl, ?hv12⟩) hH0 ?rv12
                      case hv12 => (intro w hSw; obtain ⟨s0, s1⟩ := hSw; go_simp; (try with_reducible rfl))
                      case rv12 =>
                      try simp only [Act.put, List.setIfInBounds_toArray, List.set_cons_zero, List.set_cons_succ]
                      refine callHg 12 (by kernel_rfl) rfl 118 rfl (by rfl) 261 Tryz.func261 (by kernel_rfl) (by kernel_rfl) #[.tmp 109, .tmp 114, .tmp 115, .tmp 117] #[95, 95, 3, 3] rfl #[.slice (some ⟨zb, 0, none⟩) xn xn, .slice za zn zc, .int .i64 col, .int .i64 pk] (by simp [Act.eval]) (R := fun v w' => v = .bool B ∧ Only (fun _ => False) wr.drew w') ((unhide CH).mono (by rintro en w' ⟨rfl, o⟩; exact ⟨_, rfl, rfl, o⟩)) ?kv
                      case kv =>
                      rintro _ w6 ⟨rfl, o6⟩
                      have S6 : w6.cell? ⟨tg, q, none⟩ = some (.slice za zn zc) ∧ w6.cell? ⟨kS, 2, none⟩ = some (.int .i64 pk) := ⟨o6.cellF hH0.1, o6.cellF hH0.2⟩
                      refine ⟨S6, ?_⟩
                      try simp only [Act.put, List.setIfInBounds_toArray, List.set_cons_zero, List.set_cons_succ]
                      refine takeH 13 119 (v := ?vv13) rfl rfl (by kernel_rfl) (by kernel_rfl) (by kernel_rfl) (fun _ _ _ h => h) (Or.inl ⟨by rfl, ?hv13⟩) S6 ?rv13
                      case hv13 => (intro w hSw; clear hSw; go_simp; (try with_reducible rfl))
                      case rv13 =>
                      try simp only [Act.put, List.setIfInBounds_toArray, List.set_cons_zero, List.set_cons_succ]
                      refine wpAnyH_done (by kernel_rfl) ?_ _
                      have oD : Only (fun _ => False) wr w6 := (Only.refl _ wr).drew.trans o6 (fun _ _ e => e)
                      have HF := hide oD
                      clear hH0 S6 o6 oD
                      go_wp2_with fail
                      go_meet
                      exact ⟨rfl, unhide HF⟩
                    case rest =>
                    obtain ⟨rfl, oB⟩ := hcut
                    generalize wc = wB at *
                    have RB := ownsRow_keep (unhide HRW) oB (fun _ _ h => h)
                    have oWB := (unhide HOW).trans oB (fun _ _ h => h.elim)
                    have d0 := oB.cellF d0
                    have d1 := oB.cellF d1
                    have f1 := gownFree RB j
                    clear CH p2 oB
                    have hV : (Z.map (·.1)).length = k := by rw [List.length_map, unhide Hk]
                    cases B with
                    | true =>
                      have R2 := gbrowset (i := j) RB z.1
                      have hst := rmid_step (l := Z.map (·.1)) (j := q) (x := z.1) (y := y) (by have := unhide HJ; omega) (unhide HJ).2.2.1
                      rw [← (unhide HJ).1] at hst
                      rw [hst, (unhide HJ).2.1] at R2
                      have hi2 : insJ (fun b => ahdP x.d.row b col pk) (Z.map (·.2)) k = insJ (fun b => ahdP x.d.row b col pk) (Z.map (·.2)) q := by
                        rw [unhide HIns, (unhide HJ).1, (unhide HJ).2.2.2, if_pos rfl]
                      have HF := hide (And.intro R2 (And.intro hi2 (oWB.trans (only1 (p := tg) _ _ : Only (fun b => b = tg) wB (wB.setCell ⟨tg, j, none⟩ (.slice za zn zc))) (fun _ _ h => h))))
                      have hq2 := (unhide HJ).1
                      have HQ2 := hide hq2
                      clear R2 hst hi2 RB oWB hq2 hV
                      go_wp2_with fail
                      go_roundw
                      case rel => exact ⟨q, .slice za zn zc, by first | rfl | (rw [unhide HQ2]; go_num), by have := unhide HQ2; omega, (unhide HF).1, (unhide HF).2.1, (unhide HF).2.2⟩
                      case measure => have := unhide HQ2; simp [intOf]; omega
                    | false =>
                      obtain ⟨Z', hl', g', r', q'⟩ := unhide HEX wB j y RB (by rw [unhide HIns, (unhide HJ).1, (unhide HJ).2.2.2, if_neg (by simp)]) hjk oWB
                      have HF := hide (And.intro g' (And.intro r' q'))
                      clear g' r' q' RB oWB hV
                      go_wp2_with fail
                      go_roundw
                      case rel => exact ⟨p + 1, Z', by go_num, by omega, (unhide HF).1, (unhide HF).2.1, (unhide HF).2.2.1, by rw [hl']; omega, (unhide HF).2.2.2⟩
                      case measure => simp [intOf]; omega
                  · obtain rfl : j = 0 := by omega
                    have RD := ownsRow_keep RW ((Only.refl (fun _ => False) wr).drew) (fun _ _ h => h)
                    obtain ⟨Z', hl', g', r', q'⟩ := unhide HEX wr.drew 0 y RD (by rw [hins]; rfl) (by omega) oW.drew
                    have HF := hide (And.intro g' (And.intro r' q'))
                    have dj : decide (((0 : Nat) : Int) > 0) = false := decide_eq_false (by omega)
                    have dj' : decide ((0 : Int) < ((0 : Nat) : Int)) = false := decide_eq_false (by omega)
                    have fD := gownFree RD 0
                    have dD := ((Only.refl (fun _ => False) wr).drew).cellF d1
                    clear g' r' q' RW hins oW OR hTw hT9 RD hV
                    go_upto_region 21 with fail
                    go_cut [119] from 106 to 119 (fun bv wx => bv = .bool false ∧ wr.drew = wx)
                    case first =>
                      go_region
                      all_goals
                        go_wp2_with fail
                        go_meet
                        exact ⟨rfl, rfl⟩
                    case rest =>
                    obtain ⟨rfl, rfl⟩ := hcut
                    generalize wr.drew = wB at *
                    clear d1 f1 p2
                    go_wp2_with fail
                    go_roundw
                    case rel => exact ⟨p + 1, Z', by go_num, by omega, (unhide HF).1, (unhide HF).2.1, (unhide HF).2.2.1, by rw [hl']; omega, (unhide HF).2.2.2⟩
                    case measure => simp [intOf]; omega
          · have b1 := seq_f htab
            have HQn := hide (show Z.map (·.2) = mrgN nm pk col lb hb ((X.ws s).take (p + 1)) ((Zr.map (·.2)).filter (fun r => !hitQ (X.ws s) nm (atV r pk))) from by
              rw [unhide Hst false (by unfold ownIn; rw [decide_eq_false htab]; rfl), if_neg (by simp)])
            clear htab
            go_wp2_with fail
            go_roundw
            case rel => exact ⟨p + 1, Z, by go_num, by omega, unhide HGn, unhide HRn, unhide HQn, by omega, unhide HAp⟩
            case measure => simp [intOf]; omega
        · obtain rfl : p = n := by omega
          have a2 : decide ((p : Int) < (p : Int)) = false := by simp
          have FF := hide (show MgP w lo (mrgP (X.ws s) nm pk col lb hb (Zr.map (·.2))) (.returned (.slice oa Z.length oc)) wr from ⟨_, Z, rfl, ⟨G.own, fun k hk => by have := G.hb k hk; omega, (unhide HO).trans G.ho (fun _ _ h => h)⟩, unhide HRow, by
            rw [unhide HQ, List.take_of_length_le (by rw [unhide Hn]; omega)]; rfl, unhide HAp⟩)
          clear G M1
          go_wp2_with fail
          go_ret
          exact unhide FF
end
end Go.Proofs.Qxb6500412aGreat
