/- Parts of the proof that follows: A run of closed code, whatever order is drawn and however much room append makes: the runner, on numbered memory of its own. No condition. | A run of closed code: how the runner's memory stands for a world's. No condition. | A run of closed code: the operations that look at no memory. No condition. | A run of closed code: the operations that look at no memory, told. No condition. | A run of closed code: what is made, written, let go. No condition. | A run of closed code: the operations that look at memory, but calls. No condition. -/
import Derived.RangeFuncLeaves
import Derived.Laws.Tables
import Derived.Laws.AppendOwn
import Derived.Laws.MakeOwn
import Derived.Laws.CopyRow
import Derived.Test.YtdeghcgakkhbmaaGreatDo16
set_option linter.unusedSimpArgs false
set_option linter.unusedVariables false
namespace Go.Proofs.YtdeghcgakkhbmaaGreat
open Go.RowKit
inductive Tr (α : Type) where
  | nil
  | node (o : Option α) (l r : Tr α)
noncomputable def Tr.get {α : Type} (t : Tr α) : Nat → Option α :=
  Tr.rec (motive := fun _ => Nat → Option α) (fun _ => none) (fun o _ _ gl gr k => bif Nat.beq k 0 then o else bif Nat.beq (Nat.mod k 2) 1 then gl (Nat.div k 2) else gr (Nat.pred (Nat.div k 2))) t
noncomputable def Tr.set {α : Type} (n : Nat) : Tr α → Nat → Option α → Tr α :=
  Nat.rec (motive := fun _ => Tr α → Nat → Option α → Tr α) (fun t _ _ => t)
    (fun _ ih t k v => Tr.rec (motive := fun _ => Tr α)
      (bif Nat.beq k 0 then .node v .nil .nil else bif Nat.beq (Nat.mod k 2) 1 then .node none (ih .nil (Nat.div k 2) v) .nil else .node none .nil (ih .nil (Nat.pred (Nat.div k 2)) v))
      (fun o l r _ _ => bif Nat.beq k 0 then .node v l r else bif Nat.beq (Nat.mod k 2) 1 then .node o (ih l (Nat.div k 2) v) r else .node o l (ih r (Nat.pred (Nat.div k 2)) v)) t) n
/-- A block: a row of cells (behind which there may be more: op), a map's entries, a string's reader, a range's record, a block for deferred calls. -/
inductive AO where
  | cells (cs : List Value) (t : TypeId) (op : Bool)
  | map (es : List MapEntry) (clock : Nat)
  | iter (s : ByteArray) (pos : Nat)
  | loop (st : LoopState) (pend : Option Code) (t : Tr Value) (m : Nat) (ps : Array Tmp) (asg body : Code) (d : Nat)
  | dfr (open_ : Bool)
/-- The memory; the next number; below lim nothing may be written but one; hid: numbers that are not seen. -/
structure St where
  T : Tr AO
  next : Nat
  lim : Nat
  one : Nat
  hid : List (Nat × Nat)
  /-- numbers below this are package-level variables -/
  ng : Nat
structure Fr where
  t : Tr Value
  m : Nat
  marks : List Nat
  round : Option Nat
def hidden : List (Nat × Nat) → Nat → Bool
  | [], _ => false
  | (a, b) :: r, k => (Nat.ble a k && Nat.blt k b) || hidden r k
def big : Nat := 1000000
noncomputable def St.get (s : St) (k : Nat) : Option AO := bif hidden s.hid k then none else s.T.get k
noncomputable def St.new (s : St) (o : AO) : Option (Nat × St) := bif Nat.blt s.next big then some (s.next, { s with T := s.T.set 24 s.next (some o), next := Nat.succ s.next }) else none
noncomputable def St.put (s : St) (k : Nat) (o : Option AO) : Option St := bif (Nat.ble s.lim k || Nat.beq k s.one) && Nat.blt k s.next then some { s with T := s.T.set 24 k o } else none
noncomputable def Fr.get (f : Fr) (k : Nat) : Value := (f.t.get k).getD undef
noncomputable def Fr.put (f : Fr) (d : Option Tmp) (v : Value) : Option Fr := match d with
  | none => some f
  | some d => bif Nat.blt d f.m then some { f with t := f.t.set 24 d (some v) } else none
mutual
/-- no address in it -/
def pl : Value → Bool
  | .bool _ | .int _ _ | .string _ | .pointer none | .slice none _ _ | .map none | .nilFunc | .nilIface => true
  | .agg ⟨cs⟩ => pls cs
  | .tuple ⟨cs⟩ => pls cs
  | .func (.func _) ⟨[]⟩ ⟨[]⟩ => true
  | _ => false
def pls : List Value → Bool
  | [] => true
  | v :: r => pl v && pls r
end
def okOpd (ng : Nat) : Operand → Bool
  | .tmp _ => true
  | .const v => pl v
  | .func _ => true
  | .global g => Nat.blt g ng
noncomputable def Fr.ev (f : Fr) : Operand → Value
  | .tmp t => f.get t
  | .const v => v
  | .global g => .pointer (some ⟨g, 0, none⟩)
  | .func g => .func (.func g) #[] #[]
def pv {α : Type} (P : Program) : Sem α → Option α
  | .pure a => some a
  | .program k => pv P (k P)
  | .mark _ k => pv P k
  | _ => none
def ival : Value → Option Nat
  | .int _ n => match n with | .ofNat k => some k | _ => none
  | _ => none
def takeN : Nat → List Value → List Value
  | 0, _ => []
  | _, [] => []
  | n + 1, x :: l => x :: takeN n l
def dropN : Nat → List Value → List Value
  | 0, l => l
  | _, [] => []
  | n + 1, _ :: l => dropN n l
def aggB (P : Program) (t : TypeId) : Option Bool := match P.underlying t with
  | some (.struct _) => some true
  | some (.array _ _) => some true
  | some _ => some false
  | none => none
def elemB (P : Program) (t : TypeId) : Option TypeId := match P.underlying t with
  | some (.slice e) => some e
  | _ => none
def szB (P : Program) (t : TypeId) : Option Nat := (P.info? t).map (·.size)
def zeroB (P : Program) (t : TypeId) : Option Value := ((P.info? t).bind (·.zero)).bind fun z => bif pl z then some z else none
/-- n cells at a place -/
noncomputable def rd (s : St) (k off n : Nat) : Option (List Value) := match s.get k with
  | some (.cells cs _ _) => bif Nat.ble (Nat.add off n) cs.length then some (takeN n (dropN off cs)) else none
  | _ => none
def ones : List Value → Bool
  | [] => true
  | v :: l => v.oneCell' && ones l
noncomputable def wr (s : St) (k off : Nat) (vs : List Value) : Option St := match s.get k with
  | some (.cells cs t op) => bif Nat.ble (Nat.add off vs.length) cs.length && ones vs then s.put k (some (.cells (takeN off cs ++ (vs ++ dropN (Nat.add off vs.length) cs)) t op)) else none
  | _ => none
noncomputable def ld (P : Program) (s : St) (t : TypeId) (k off : Nat) : Option Value := match aggB P t, szB P t with
  | some true, some n => (rd s k off n).map fun l => .agg l.toArray
  | some false, some _ => match rd s k off 1 with | some (v :: _) => some v | _ => none
  | _, _ => none
def reps : Nat → List Value → List Value
  | 0, _ => []
  | n + 1, l => l ++ reps n l
def bnd (s : Option Value) (d : Nat) : Option Nat := match s with | none => some d | some v => ival v
/-- a part of a slice -/
def slB (sz : Nat) (a : Option Addr) (len cap : Nat) (lo hi mx : Option Value) : Option Value := match bnd mx cap, bnd hi len, bnd lo 0 with
  | some m, some h, some l => bif Nat.ble m cap && Nat.ble h m && Nat.ble l h && (mx.isNone || hi.isSome) then
      (match a with
       | none => some (.slice none (Nat.sub h l) (Nat.sub m l))
       | some a => match mx, a.spot with
         | none, some _ => bif Nat.beq m l then none else some (.slice (some ⟨a.block, Nat.add a.off (Nat.mul l sz), a.spot⟩) (Nat.sub h l) (Nat.sub m l))
         | _, _ => some (.slice (some (bif Nat.beq m l then ⟨a.block, a.off, none⟩ else ⟨a.block, Nat.add a.off (Nat.mul l sz), none⟩)) (Nat.sub h l) (Nat.sub m l)))
    else none
  | _, _, _ => none
def mfind (k : Value) : List MapEntry → Option (Option Value)
  | [] => some none
  | e :: es => match e.key, k with
    | .int a x, .int b y => bif decide (a = b) then (bif decide (y = x) then some (some e.val) else mfind k es) else none
    | _, _ => none
structure Rec where
  code : Code → Fr → St → Option (Exit × Fr × St)
  call : FuncId → List Value → St → Option (Value × St)
  yield : Nat → List Value → St → Option (Value × St)
  /-- code within a scope: a jump to a label of it goes on behind the label -/
  back : Code → Code → Fr → St → Option (Exit × Fr × St)
noncomputable def callV (R : Rec) (f : Value) (args : List Value) (st : St) : Option (Value × St) := match f with
  | .func (.func g) first cap => R.call g (first.toList ++ (args ++ cap.toList)) st
  | .func (.yield l) ⟨[]⟩ ⟨[]⟩ => R.yield l args st
  | _ => none
noncomputable def appB (P : Program) (st : St) (t : TypeId) (s x : Value) : Option (Value × St) := match elemB P t with
  | none => none
  | some e => match P.info? e, zeroB P e with
    | some i, some z => bif Nat.beq z.cells.size i.size then match s, x with
      | .slice a len cap, .slice (some ⟨kb, ob, _⟩) n _ =>
        match rd st kb ob (Nat.mul n i.size) with
        | none => none
        | some src => bif Nat.ble (Nat.add len n) cap then
            match a with
            | some ⟨k, 0, sp⟩ => match st.get k with
              | some (.cells _ t' _) => bif Nat.beq t' e then (wr st k (Nat.mul len i.size) src).map fun st => (.slice (some ⟨k, 0, sp⟩) (Nat.add len n) cap, st) else none
              | _ => none
            | _ => none
          else bif Nat.ble (Nat.mul (Nat.mul 8 (Nat.add (Nat.add len n) 64)) (Nat.add i.bytes 1)) 100000000 && ones src then
            match a with
            | none => bif Nat.beq len 0 && Nat.beq cap 0 then (bif Nat.blt 0 n then (st.new (.cells src e true)).map fun r => (.slice (some ⟨r.1, 0, some 0⟩) n n, r.2) else none) else none
            | some ⟨k, off, sp⟩ => match rd st k off (Nat.mul len i.size) with
              | none => none
              | some old => match sp with
                | none => (st.new (.cells (old ++ src) e true)).map fun r => (.slice (some ⟨r.1, 0, some 0⟩) (Nat.add len n) (Nat.add len n), r.2)
                | some _ => match st.get k, off with
                  | some (.cells cs t' true), 0 => bif Nat.beq t' e && Nat.beq cs.length (Nat.mul cap i.size) then
                      match st.put k none with
                      | none => none
                      | some st => (st.new (.cells (old ++ src) e true)).map fun r => (.slice (some ⟨r.1, 0, some 0⟩) (Nat.add len n) (Nat.add len n), r.2)
                    else none
                  | _, _ => none
          else none
      | .slice a len cap, .slice none n _ => bif Nat.beq n 0 && Nat.ble len cap then some (.slice a len cap, st) else none
      | _, _ => none
      else none
    | _, _ => none
/-- n zeros behind a slice that has no room for them (append of a make) -/
noncomputable def appZ (P : Program) (st : St) (t u : TypeId) (s : Value) (n : Nat) : Option (Value × St) := match P.underlying u with
  | some (.int _) => match elemB P t with
    | none => none
    | some e => match P.info? e, zeroB P e with
      | some i, some z => bif Nat.beq z.cells.size i.size && (Nat.blt 0 n && (Nat.blt 0 i.size && ones z.cells.toList)) then
          match s with
          | .slice none 0 0 => bif Nat.ble (Nat.mul (Nat.mul 8 (Nat.add n 64)) (Nat.add i.bytes 1)) 100000000 then (st.new (.cells (reps n z.cells.toList) e true)).map fun r => (.slice (some ⟨r.1, 0, some 0⟩) n n, r.2) else none
          | .slice (some ⟨k, off, none⟩) len cap => bif Nat.blt cap (Nat.add len n) && Nat.ble (Nat.mul (Nat.mul 8 (Nat.add (Nat.add len n) 64)) (Nat.add i.bytes 1)) 100000000 then
              match rd st k off (Nat.mul len i.size) with
              | none => none
              | some old => (st.new (.cells (old ++ reps n z.cells.toList) e true)).map fun r => (.slice (some ⟨r.1, 0, some 0⟩) (Nat.add len n) (Nat.add len n), r.2)
            else none
          | _ => none
        else none
      | _, _ => none
  | _ => none
def nilB (P : Program) (t : TypeId) (x y : Value) : Bool := match P.underlying t, x, y with
  | some (.slice _), .slice none _ _, .slice (some _) _ _ | some (.slice _), .slice (some _) _ _, .slice none _ _ | some (.pointer _), .pointer none, .pointer (some _) | some (.pointer _), .pointer (some _), .pointer none | some (.func _ _ _), .nilFunc, .func _ _ _ | some (.func _ _ _), .func _ _ _, .nilFunc => true
  | _, _, _ => false
def eqNil (P : Program) (t : TypeId) (op : BinOp) (x y : Value) : Option Value := bif nilB P t x y then (match op with | .eql => some (.bool false) | .neq => some (.bool true) | _ => none) else none
def pvV (P : Program) (ρ : Operand → Value) (o : Oper) : Option Value := match pv P (execOp ρ o) with
  | some (.value v) => bif pl v then some v else none
  | _ => none
/-- an operation that looks at no memory -/
def pureK (o : Oper) : Bool := match o.op with
  | .move _ | .assign _ | .pick _ _ _ | .extract _ _ | .field _ _ _ | .index _ _ _ | .build _ _ | .makeFunc _ _ _ | .nilCheck _ | .binOp _ _ _ _ _ | .unOp _ _ _ | .convert _ _ _ | .fieldAddr _ _ _ | .indexAddr _ _ _ | .slice _ _ _ _ _ => true
  | _ => false
def partB (P : Program) (t : TypeId) (cs : Array Value) (off : Nat) : Option Value := match aggB P t, szB P t with
  | some true, some n => some (.agg (cs.extract off (off + n)))
  | some false, some _ => cs[off]?
  | _, _ => none
def execP (P : Program) (ρ : Operand → Value) (o : Oper) : Option Value := match o.op with
  | .move x | .assign x => some (ρ x)
  | .pick c a b => match ρ c with | .bool t => some (bif t then ρ a else ρ b) | _ => none
  | .extract x i => match ρ x with | .tuple vs => vs[i]? | _ => none
  | .field t x f => match P.underlying t, ρ x with
    | some (.struct fs), .agg cs => match fs[f]? with | some fd => partB P fd.type cs fd.offset | none => none
    | _, _ => none
  | .index t x i => bif pl (ρ x) && pl (ρ i) then pvV P ρ o else match P.underlying t, ρ x, ival (ρ i) with
    | some (.array n e), .agg cs, some k => match szB P e with | some sz => bif Nat.blt k n then partB P e cs (k * sz) else none | none => none
    | _, _, _ => none
  | .build t parts => bif (zeroB P t).isSome then (P.built t (parts.toList.map fun p => (p.1, ρ p.2))).map .agg else none
  | .makeFunc (.func g) first cap => some (.func (.func g) (first.map ρ) (cap.map ρ))
  | .nilCheck x => match ρ x with
    | .pointer (some a) => some (.pointer (some a))
    | .func (.func g) a b => some (.func (.func g) a b)
    | .func (.yield g) a b => some (.func (.yield g) a b)
    | _ => none
  | .binOp op t x y _ => match eqNil P t op (ρ x) (ρ y) with
    | some v => some v
    | none => bif pl (ρ x) && pl (ρ y) then pvV P ρ o else none
  | .unOp _ _ x | .convert _ _ x => bif pl (ρ x) then pvV P ρ o else none
  | .fieldAddr s x f => match ρ x, P.underlying s with
    | .pointer (some ⟨k, off, none⟩), some (.struct fs) => match fs[f]? with
      | some fd => match szB P fd.type with | some (.succ _) => some (.pointer (some ⟨k, Nat.add off fd.offset, none⟩)) | _ => none
      | none => none
    | _, _ => none
  | .indexAddr t x i => match P.underlying t, ρ x, ival (ρ i) with
    | some (.array len e), .pointer (some ⟨k, off, none⟩), some n => match szB P e with | some sz => bif Nat.blt n len then some (.pointer (some ⟨k, Nat.add off (Nat.mul n sz), none⟩)) else none | none => none
    | some (.slice e), .slice (some ⟨k, off, _⟩) len _, some n => match szB P e with | some sz => bif Nat.blt n len then some (.pointer (some ⟨k, Nat.add off (Nat.mul n sz), none⟩)) else none | none => none
    | _, _, _ => none
  | .slice t x lo hi mx => match P.underlying t, ρ x with
    | some (.slice e), .slice a len cap => match szB P e with | some sz => slB sz a len cap (lo.map ρ) (hi.map ρ) (mx.map ρ) | none => none
    | some .string, .string _ => bif pl (ρ x) && ((lo.toList ++ hi.toList ++ mx.toList).all fun y => pl (ρ y)) then pvV P ρ o else none
    | _, _ => none
  | _ => none
noncomputable def allPl (l : List Value) : Bool := pls l
noncomputable def newC (s : St) (cs : List Value) (t : TypeId) : Option (Value × St) := bif ones cs then (s.new (.cells cs t false)).map fun r => (.pointer (some ⟨r.1, 0, none⟩), r.2) else none
def pvp (P : Program) (x : Sem Value) : Option Value := match pv P x with | some v => bif pl v then some v else none | none => none
noncomputable def bi (P : Program) (b : Builtin) (tys : List TypeId) (type : TypeId) (args : List Value) (st : St) : Option (Value × St) := match b, tys, args with
  | .len, t :: _, [.slice _ n _] => (elemB P t).map fun _ => (.int .i64 n, st)
  | .len, _, [.string s] => (pvp P (Builtin.len_ tys.toArray type #[.string s])).map fun v => (v, st)
  | .cap, t :: _, [.slice none _ n] => (elemB P t).map fun _ => (.int .i64 n, st)
  | .cap, t :: _, [.slice (some ⟨_, _, none⟩) _ n] => (elemB P t).map fun _ => (.int .i64 n, st)
  | .append, [t, u], [s, x] => bif Nat.beq t u then appB P st t s x else (match x with | .int _ (.ofNat n) => appZ P st t u s n | _ => none)
  | .copy, [t, u], [.slice a n _, .slice b m _] => bif Nat.beq t u then (match (elemB P t).bind (szB P) with
    | none => none
    | some sz => bif Nat.beq (Nat.min m n) 0 then some (.int .i64 0, st) else match a, b with
      | some ⟨ka, oa, _⟩, some ⟨kb, ob, _⟩ => match rd st kb ob (Nat.mul (Nat.min m n) sz) with
        | none => none
        | some src => (wr st ka oa src).map fun st => (.int .i64 (Nat.min m n), st)
      | _, _ => none) else none
  | .clear, t :: _, [.slice a n _] => bif Nat.beq n 0 then (elemB P t).map fun _ => (.tuple #[], st) else match (elemB P t).bind (zeroB P), a with
    | some z, some ⟨k, off, _⟩ => (wr st k off (reps n z.cells.toList)).map fun st => (.tuple #[], st)
    | _, _ => none
  | .max, _, l => bif pls l then (pvp P (Builtin.max_ tys.toArray type l.toArray)).map fun v => (v, st) else none
  | .min, _, l => bif pls l then (pvp P (Builtin.min_ tys.toArray type l.toArray)).map fun v => (v, st) else none
  | _, _, _ => none
/-- an operation that looks at memory, or calls -/
noncomputable def execH (P : Program) (R : Rec) (ρ : Operand → Value) (o : Oper) (st : St) : Option (Value × St) := match o.op with
  | .alloc e => match zeroB P e with | some z => newC st z.cells.toList e | none => none
  | .box e x => newC st (ρ x).cells.toList e
  | .buildSlice t len parts => match elemB P t with
    | none => none
    | some e => match szB P e, zeroB P e with
      | some sz, some z => bif Nat.beq sz 0 || Nat.blt 10000 (len * sz) || !(Nat.beq z.cells.size sz) then none else
        match Instr.fill (fun i => some (i * sz, sz)) (reps len z.cells.toList).toArray (parts.toList.map fun p => (p.1, ρ p.2)) with
        | none => none
        | some cs => bif ones cs.toList then (st.new (.cells cs.toList e false)).map fun r => (.slice (some ⟨r.1, 0, none⟩) len len, r.2) else none
      | _, _ => none
  | .load t a => match ρ a with
    | .pointer (some ⟨k, off, none⟩) => (ld P st t k off).map fun v => (v, st)
    | _ => none
  | .store t a x => match ρ a, szB P t with
    | .pointer (some ⟨k, off, none⟩), some n => bif Nat.beq (ρ x).cells.size n then (wr st k off (ρ x).cells.toList).map fun st => (undef, st) else none
    | _, _ => none
  | .makeSlice t l c => match elemB P t with
    | none => none
    | some e => match P.info? e, zeroB P e, ρ l, ρ c with
      | some i, some z, .int _ (.ofNat l), .int _ (.ofNat c) => bif Nat.ble l c && Nat.ble (Nat.mul c (Nat.add (Nat.add i.size i.bytes) 1)) 10000000 && Nat.beq z.cells.size i.size && ones z.cells.toList then
          (st.new (.cells (reps c z.cells.toList) e false)).map fun r => (.slice (some ⟨r.1, 0, none⟩) l c, r.2) else none
      | _, _, _, _ => none
  | .makeMap _ none => (st.new (.map [] 0)).map fun r => (.map (some r.1), r.2)
  | .insert t m k v => match ρ m, P.underlying t with
    | .map (some r), some (.map kt _) => match P.underlying kt, ρ k, st.get r with
      | some (.int _), .int a x, some (.map es c) => match mfind (.int a x) es with
        | some none => (st.put r (some (.map (es ++ [{ key := .int a x, val := ρ v, born := c }]) (c + 1)))).map fun st => (undef, st)
        | _ => none
      | _, _, _ => none
    | _, _ => none
  | .lookup t m k true => match ρ m, P.underlying t with
    | .map (some r), some (.map kt e) => match P.underlying kt, ρ k, st.get r with
      | some (.int _), .int a x, some (.map es _) => match mfind (.int a x) es, zeroB P e with
        | some none, some z => some (.tuple #[z, .bool false], st)
        | some (some v), some _ => some (.tuple #[v, .bool true], st)
        | _, _ => none
      | _, _, _ => none
    | _, _ => none
  | .range t x => match ρ x, P.underlying t with
    | .string s, some .string => (st.new (.iter s 0)).map fun r => (.pointer (some ⟨r.1, 0, none⟩), r.2)
    | _, _ => none
  | .next x true => match ρ x with
    | .pointer (some ⟨k, 0, none⟩) => match st.get k with
      | some (.iter s pos) => bif Nat.blt pos s.size then
          (st.put k (some (.iter s (pos + (Utf8.decode s pos).2)))).map fun st => (.tuple #[.bool true, .int .i64 pos, .int .i32 (Utf8.decode s pos).1], st)
        else some (.tuple #[.bool false], st)
      | _ => none
    | _ => none
  | .call c => match c.callee with
    | .builtin b => bi P b c.argTypes.toList o.type (c.args.toList.map ρ) st
    | .value f => callV R (ρ f) (c.args.toList.map ρ) st
    | _ => none
  | _ => none
noncomputable def exec (P : Program) (R : Rec) (ρ : Operand → Value) (o : Oper) (st : St) : Option (Value × St) := bif pureK o then (execP P ρ o).map fun v => (v, st) else execH P R ρ o st
/-- is the guard met? -/
noncomputable def guardB (ops : Array Oper) (f : Fr) (o : Oper) : Bool := match o.guard with
  | none => true
  | some (k, want) => match wrOf ops k with
    | some d => match f.get d with | .bool b => bif b then want else !want | _ => false
    | none => false
noncomputable def seqB (P : Program) (R : Rec) (ops : Array Oper) : List Oper → Fr → St → Option (Fr × St)
  | [], fr, st => some (fr, st)
  | o :: l, fr, st => bif guardB ops fr o then
      match exec P R fr.ev o st with
      | some r => match fr.put o.dst r.1 with | some fr => seqB P R ops l fr r.2 | none => none
      | none => none
    else match fr.put o.dst undef with | some fr => seqB P R ops l fr st | none => none
/-- what stands ahead of each operation, as a mask -/
def maskOf (A : List Nat) (es : List Edge) : Nat := es.foldr (fun e m => bif Region.binds .any e then Nat.lor (Nat.lor m (Nat.shiftLeft 1 e.on)) (A.getD e.on 0) else m) 0
def ancs : List Oper → List Nat → List Nat
  | [], A => A
  | o :: l, A => ancs l (A ++ [maskOf A o.after.toList])
def bitL (A : List Nat) (i k : Nat) : Bool := Nat.testBit (A.getD i 0) k
def aheadB (A : List Nat) (i k : Nat) : Bool := bif Nat.blt k i then bitL A i k else bitL A k i
/-- an operation that each other that looks at memory stands ahead of, or behind -/
def wrB (ops : Array Oper) (A : List Nat) (i : Nat) : Bool := (List.range ops.size).all fun k => Nat.beq k i || aheadB A i k || (match ops[k]? with | some o => pureK o | none => true)
def wrs (ops : Array Oper) (A : List Nat) : List Bool := (List.range ops.size).map fun i => wrB ops A i
def readsA (ops : Array Oper) (A : List Nat) : Bool := (List.range ops.size).all fun i => match ops[i]? with
  | some o => (o.looksAt ops).all fun s => (List.range ops.size).all fun j => (match wrOf ops j with | some d => !(Nat.beq d s) | none => true) || (bif Nat.beq i j then Nat.beq 0 0 else aheadB A i j)
  | none => true
def okOps (ng : Nat) (ops : Array Oper) : Bool := ops.toList.all fun o => o.op.operands.toList.all (okOpd ng)
def okR (ng : Nat) (ops : Array Oper) : Bool := backB ops && uniqB ops ops.size && readsA ops (ancs ops.toList []) && okOps ng ops
def wrIx (ops : Array Oper) (s : Tmp) : Option Nat := (List.range ops.size).find? fun j => match wrOf ops j with | some d => Nat.beq d s | none => false
/-- the block of a place whose block is known ahead of the region -/
noncomputable def baseB (ops : Array Oper) (fr : Fr) : Nat → Tmp → Option Nat
  | 0, _ => none
  | n + 1, s => match wrIx ops s with
    | none => match fr.get s with | .pointer (some ⟨b, _, none⟩) => some b | _ => none
    | some j => match ops[j]? with
      | some o => match o.op with
        | .move (.tmp x) => baseB ops fr n x
        | .nilCheck (.tmp x) => baseB ops fr n x
        | .fieldAddr _ (.tmp x) _ => baseB ops fr n x
        | _ => none
      | none => none
/-- stores into blocks that are known ahead of the region -/
noncomputable def psts (ops : Array Oper) (W : List Bool) (fr : Fr) : List Nat → List (Nat × Nat)
  | [] => []
  | i :: l => match (bif W.getD i false then none else match ops[i]? with | some o => (match o.op with | .store _ (.tmp s) _ => baseB ops fr 10 s | _ => none) | none => none) with
    | some b => (i, b) :: psts ops W fr l
    | none => psts ops W fr l
def userCall (o : Oper) : Bool := match o.op with | .call c => (match c.callee with | .builtin _ => false | _ => true) | _ => false
def mayPut (o : Oper) : Bool := match o.op with | .store .. => true | .call c => (match c.callee with | .builtin .append => true | .builtin .copy => true | _ => false) | _ => false
/-- the block that an operation writes, by a run in the text's order -/
noncomputable def putAt (ρ : Operand → Value) (o : Oper) : Option Nat := match o.op with
  | .store _ x _ => match ρ x with | .pointer (some ⟨b, _, none⟩) => some b | _ => none
  | .call c => match c.callee with
    | .builtin .append | .builtin .copy => match c.args.toList.map ρ with | .slice (some ⟨b, _, _⟩) _ _ :: _ => some b | _ => none
    | _ => none
  | _ => none
noncomputable def pass1 (P : Program) (R : Rec) (ops : Array Oper) (W : List Bool) (nx : Nat) : List Oper → Nat → Fr → St → List (Nat × Nat)
  | [], _, _, _ => []
  | o :: l, i, fr, st => bif guardB ops fr o then
      match exec P R fr.ev o st with
      | some r => match fr.put o.dst r.1 with
        | some fr' => match (bif W.getD i false then none else putAt fr.ev o) with
          | some b => bif Nat.blt b nx then (i, b) :: pass1 P R ops W nx l (Nat.succ i) fr' r.2 else pass1 P R ops W nx l (Nat.succ i) fr' r.2
          | none => pass1 P R ops W nx l (Nat.succ i) fr' r.2
        | none => []
      | none => []
    else match fr.put o.dst undef with | some fr => pass1 P R ops W nx l (Nat.succ i) fr st | none => []
/-- which operations write, and into what: found by any way, for it is looked at again -/
noncomputable def putsB (P : Program) (R : Rec) (ops : Array Oper) (W : List Bool) (fr : Fr) (st : St) : List (Nat × Nat) :=
  bif (List.range ops.size).any fun i => !(W.getD i false) && (match ops[i]? with | some o => mayPut o | none => false) then
    (bif ops.toList.any userCall then psts ops W fr (List.range ops.size) else pass1 P R ops W st.next ops.toList 0 fr st) else []
/-- what operation i does not see: what was made by those that stand neither ahead nor behind, and the blocks into which such store -/
def hidOf (A : List Nat) (i : Nat) (rs : List (Nat × Nat × Nat)) (ps : List (Nat × Nat)) : List (Nat × Nat) :=
  (rs.filterMap fun r => bif bitL A i r.1 then none else some (r.2.1, r.2.2)) ++ (ps.filterMap fun p => bif Nat.beq p.1 i || aheadB A i p.1 then none else some (p.2, Nat.succ p.2))
def oneOf (i : Nat) (ps : List (Nat × Nat)) : Nat := match ps with
  | [] => big
  | (k, b) :: l => bif Nat.beq k i then b else oneOf i l
/-- a region that draws its order; rs: what each made -/
noncomputable def anyB (P : Program) (R : Rec) (ops : Array Oper) (A : List Nat) (W : List Bool) (ps : List (Nat × Nat)) : List Oper → Nat → List (Nat × Nat × Nat) → Fr → St → Option (Fr × St)
  | [], _, _, fr, st => some (fr, st)
  | o :: l, i, rs, fr, st =>
    bif guardB ops fr o then
      bif pureK o then match execP P fr.ev o with
        | some v => match fr.put o.dst v with | some fr => anyB P R ops A W ps l (Nat.succ i) rs fr st | none => none
        | none => none
      else match execH P R fr.ev o (bif W.getD i false then st else { st with lim := st.next, one := oneOf i ps, hid := hidOf A i rs ps ++ st.hid }) with
        | some r => match fr.put o.dst r.1 with | some fr => anyB P R ops A W ps l (Nat.succ i) ((i, st.next, r.2.next) :: rs) fr { r.2 with lim := st.lim, one := st.one, hid := st.hid } | none => none
        | none => none
    else match fr.put o.dst undef with | some fr => anyB P R ops A W ps l (Nat.succ i) rs fr st | none => none
/-- these blocks may be written, and are apart -/
def apartB (lim one next : Nat) : List (Nat × Nat) → Bool
  | [] => true
  | (_, b) :: l => (Nat.ble lim b || Nat.beq b one) && Nat.blt b next && (l.all fun q => !(Nat.beq q.2 b)) && apartB lim one next l
noncomputable def regB (P : Program) (R : Rec) (ops : Array Oper) (draw : Bool) (fr : Fr) (st : St) : Option (Fr × St) :=
  bif draw then (bif okR st.ng ops then (match putsB P R ops (wrs ops (ancs ops.toList [])) fr st with | ps => bif apartB st.lim st.one st.next ps then anyB P R ops (ancs ops.toList []) (wrs ops (ancs ops.toList [])) ps ops.toList 0 [] fr st else none) else none) else (bif okOps st.ng ops then seqB P R ops ops.toList fr st else none)
def entersB (P : Program) : Value → Bool
  | .func (.func g) _ _ => match P.funcs[g]? with | some fn => fn.body.isSome && !(fn.name == "runtime.NumGoroutine") | none => false
  | _ => false
noncomputable def stepCode (P : Program) (R : Rec) (c : Code) (fr : Fr) (st : St) : Option (Exit × Fr × St) := match c with
  | .skip => some (.normal, fr, st)
  | .label _ => some (.normal, fr, st)
  | .region _ ops draw => (regB P R ops draw fr st).map fun r => (.normal, r.1, r.2)
  | .seq a b => match R.code a fr st with
    | some (.normal, fr, st) => R.code b fr st
    | r => r
  | .cond c a b => bif okOpd st.ng c then (match fr.ev c with | .bool t => bif t then R.code a fr st else R.code b fr st | _ => none) else none
  | .block id b => match R.code b fr st with
    | some (.exit k, fr, st) => bif Nat.beq k id then some (.normal, fr, st) else some (.exit k, fr, st)
    | r => r
  | .loop b => match R.code b fr st with
    | some (.normal, fr, st) => R.code c fr st
    | r => r
  | .exit id => some (.exit id, fr, st)
  | .goto l => some (.goto l, fr, st)
  | .ret => some (.ret, fr, st)
  | .scope b => match fr.round with | none => R.back b b fr st | some _ => none
  | .rangeFunc f ps asg body => bif okOpd st.ng f && entersB P (fr.ev f) then
      match (show Option (Nat × List Nat × St) from match fr.round with
        | some l => (match st.get l with | some (.loop _ _ _ _ _ _ _ d) => some (d, ([] : List Nat), st) | _ => none)
        | none => (st.new (.dfr true)).map fun r => (r.1, [r.1], r.2)) with
      | none => none
      | some (d, mk, st) => match st.new (.loop .ready none fr.t fr.m ps asg body d) with
        | none => none
        | some (l, st) => match callV R (fr.ev f) [.func (.yield l) #[] #[]] st with
          | none => none
          | some (_, st) => match st.get l with
            | some (.loop s pend t m ps asg body d) => match s with
              | .busy => none
              | _ => match st.put l (some (.loop .exhausted pend t m ps asg body d)) with
                | none => none
                | some st => match pend with
                  | none => some (.normal, { fr with marks := mk ++ fr.marks }, st)
                  | some .ret => some (.ret, { fr with marks := mk ++ fr.marks }, st)
                  | some (.exit k) => some (.exit k, { fr with marks := mk ++ fr.marks }, st)
                  | some _ => none
            | _ => none
    else none
  | .refuse _ => none
noncomputable def putAll : List Value → Nat → Tr Value → Tr Value
  | [], _, t => t
  | v :: l, i, t => putAll l (Nat.succ i) (t.set 24 i (some v))
noncomputable def putPar (m : Nat) : List (Tmp × Value) → Tr Value → Option (Tr Value)
  | [], t => some t
  | (d, v) :: l, t => bif Nat.blt d m then putPar m l (t.set 24 d (some v)) else none
noncomputable def takeMarks : List Nat → St → Option St
  | [], st => some st
  | d :: l, st => match st.get d with
    | some (.dfr true) => match st.put d (some (.dfr false)) with | some st => takeMarks l st | none => none
    | _ => none
noncomputable def resB (P : Program) (st : St) (fr : Fr) : List ResultVar → Option (List Value)
  | [] => some []
  | .tmp t :: l => match resB P st fr l with | some vs => some (fr.get t :: vs) | none => none
  | .cell a t :: l => match fr.get a with
    | .pointer (some ⟨k, off, none⟩) => match ld P st t k off, resB P st fr l with | some v, some vs => some (v :: vs) | _, _ => none
    | _ => none
/-- what is known of some functions without a walk -/
abbrev Orc := FuncId → List Value → St → Option (Value × St)
noncomputable def stepCall (P : Program) (O : Orc) (R : Rec) (f : FuncId) (args : List Value) (st : St) : Option (Value × St) := match O f args st with
 | some r => some r
 | none => match P.funcs[f]? with
  | none => none
  | some fn => bif fn.name == "runtime.NumGoroutine" then none else match fn.body with
    | none => bif pls args then (match pv P (callFunc f args.toArray) with | some (.value v) => bif pl v then some (v, st) else none | _ => none) else none
    | some c => bif Nat.ble args.length fn.ntmps && Nat.ble fn.ntmps big then
      match R.code c ⟨putAll args 0 .nil, fn.ntmps, [], none⟩ st with
      | some (e, fr, st) => match e with
        | .normal | .ret => match takeMarks fr.marks st with
          | none => none
          | some st => match resB P st fr fn.results.toList with
            | some [v] => some (v, st)
            | some vs => some (.tuple vs.toArray, st)
            | none => none
        | _ => none
      | none => none else none
noncomputable def stepYield (P : Program) (R : Rec) (l : Nat) (args : List Value) (st : St) : Option (Value × St) := match st.get l with
  | some (.loop .ready pend t m ps asg body d) => bif Nat.beq args.length ps.size then match putPar m (ps.toList.zip args) t with
    | none => none
    | some t' => match R.code asg ⟨t', m, [], some l⟩ st with
      | some (.normal, fr, st) => match st.get l with
        | some (.loop .ready pend t m ps asg body' d) => match st.put l (some (.loop .busy pend t m ps asg body' d)) with
          | none => none
          | some st => match R.code body fr st with
            | none => none
            | some (e, _, st) => match st.get l, (match e with | .normal => some none | .ret => some (some Code.ret) | .exit k => some (some (Code.exit k)) | _ => none) with
              | some (.loop _ _ t m ps asg body d), some jump => (st.put l (some (.loop (bif Option.isNone jump then .ready else .done) jump t m ps asg body d))).map fun st => (.bool (Option.isNone jump), st)
              | _, _ => none
        | _ => none
      | _ => none
    else none
  | _ => none
noncomputable def stepBack (R : Rec) (b c : Code) (fr : Fr) (st : St) : Option (Exit × Fr × St) := match R.code c fr st with
  | some (.goto l, fr, st) => (match findLabel b l with
    | some rest => R.back b rest fr st
    | none => some (.goto l, fr, st))
  | r => r
noncomputable def ev (P : Program) (O : Orc) (n : Nat) : Rec :=
  Nat.rec (motive := fun _ => Rec) ⟨fun _ _ _ => none, fun _ _ _ => none, fun _ _ _ => none, fun _ _ _ _ => none⟩ (fun _ R => ⟨stepCode P R, stepCall P O R, stepYield P R, stepBack R⟩) n
noncomputable def runB (P : Program) (O : Orc) (s : St) (f : FuncId) : Bool := match (ev P O 1000000).call f [] s with
  | some (.bool true, _) => true
  | _ => false
end Go.Proofs.YtdeghcgakkhbmaaGreat
namespace Go.Proofs.YtdeghcgakkhbmaaGreat
open Go.RowKit
theorem Tr.get_nil {α : Type} (k : Nat) : (Tr.nil : Tr α).get k = none := rfl
theorem bq {α : Type} (a b : Nat) (x y : α) : (bif Nat.beq a b then x else y) = if a = b then x else y := by
  by_cases h : a = b
  · subst h; rw [if_pos rfl, show Nat.beq a a = true from Nat.beq_refl a]; rfl
  · rw [if_neg h]
    cases e : Nat.beq a b with
    | false => rfl
    | true => exact absurd (Nat.eq_of_beq_eq_true e) h
theorem Tr.get_node {α : Type} (o : Option α) (l r : Tr α) (k : Nat) : (Tr.node o l r).get k = if k = 0 then o else if k % 2 = 1 then l.get (k / 2) else r.get (k / 2 - 1) := by
  rw [← bq, ← bq]; rfl
theorem Tr.set_nil {α : Type} (n k : Nat) (v : Option α) : (Tr.nil : Tr α).set (n + 1) k v = if k = 0 then Tr.node v .nil .nil else if k % 2 = 1 then Tr.node none (Tr.nil.set n (k / 2) v) .nil else Tr.node none .nil (Tr.nil.set n (k / 2 - 1) v) := by
  rw [← bq, ← bq]; rfl
theorem Tr.set_node {α : Type} (n k : Nat) (o v : Option α) (l r : Tr α) : (Tr.node o l r).set (n + 1) k v = if k = 0 then Tr.node v l r else if k % 2 = 1 then Tr.node o (l.set n (k / 2) v) r else Tr.node o l (r.set n (k / 2 - 1) v) := by
  rw [← bq, ← bq]; rfl
theorem Tr.get_set {α : Type} : ∀ (n : Nat) (t : Tr α) (k : Nat) (v : Option α) (k' : Nat), k + 2 ≤ 2 ^ n → (t.set n k v).get k' = if k' = k then v else t.get k'
  | 0, _, _, _, _, h => by simp at h
  | n + 1, t, k, v, k', h => by
    have hp : 2 ^ (n + 1) = 2 * 2 ^ n := by rw [Nat.pow_succ]; omega
    cases t with
    | nil =>
      rw [Tr.set_nil, Tr.get_nil]
      by_cases h0 : k = 0
      · subst h0
        rw [if_pos rfl, Tr.get_node, Tr.get_nil, Tr.get_nil]
        split <;> simp [*]
      · rw [if_neg h0]
        by_cases h1 : k % 2 = 1
        · rw [if_pos h1, Tr.get_node, Tr.get_set n _ _ _ _ (by omega), Tr.get_nil, Tr.get_nil]
          by_cases e : k' = k
          · subst e; rw [if_neg h0, if_pos h1, if_pos rfl, if_pos rfl]
          · rw [if_neg e]
            split
            · rfl
            · split
              · rw [if_neg (by omega)]
              · rfl
        · rw [if_neg h1, Tr.get_node, Tr.get_set n _ _ _ _ (by omega), Tr.get_nil, Tr.get_nil]
          by_cases e : k' = k
          · subst e; rw [if_neg h0, if_neg h1, if_pos rfl, if_pos rfl]
          · rw [if_neg e]
            split
            · rfl
            · split
              · rfl
              · rw [if_neg (by omega)]
    | node o l r =>
      rw [Tr.set_node, Tr.get_node]
      by_cases h0 : k = 0
      · subst h0
        rw [if_pos rfl, Tr.get_node]
        split <;> simp [*]
      · rw [if_neg h0]
        by_cases h1 : k % 2 = 1
        · rw [if_pos h1, Tr.get_node, Tr.get_set n _ _ _ _ (by omega)]
          by_cases e : k' = k
          · subst e; rw [if_neg h0, if_pos h1, if_pos rfl, if_pos rfl]
          · rw [if_neg e]
            split
            · rfl
            · split
              · rw [if_neg (by omega)]
              · rfl
        · rw [if_neg h1, Tr.get_node, Tr.get_set n _ _ _ _ (by omega)]
          by_cases e : k' = k
          · subst e; rw [if_neg h0, if_neg h1, if_pos rfl, if_pos rfl]
          · rw [if_neg e]
            split
            · rfl
            · split
              · rfl
              · rw [if_neg (by omega)]
/-- Where the numbers lie: the block, and how much more room a row there has. -/
abbrev Rn := Nat → Option (Nat × Nat)
inductive VR (r : Rn) : Value → Value → Prop where
  | pln {v : Value} (h : pl v = true) : VR r v v
  | ptr {k off b x : Nat} (h : r k = some (b, x)) : VR r (.pointer (some ⟨k, off, none⟩)) (.pointer (some ⟨b, off, none⟩))
  | sl {k off b x n c : Nat} (h : r k = some (b, x)) : VR r (.slice (some ⟨k, off, none⟩) n c) (.slice (some ⟨b, off, none⟩) n c)
  | so {k off b x n c : Nat} (h : r k = some (b, x)) : VR r (.slice (some ⟨k, off, some 0⟩) n c) (.slice (some ⟨b, off, none⟩) n (c + x))
  | mp {k b x : Nat} (h : r k = some (b, x)) : VR r (.map (some k)) (.map (some b))
  | yl {k b x : Nat} (h : r k = some (b, x)) : VR r (.func (.yield k) #[] #[]) (.func (.yield b) #[] #[])
  | fn {g : FuncId} {f f' c c' : Array Value} (h1 : f.size = f'.size) (h2 : ∀ (i : Nat) v v', f[i]? = some v → f'[i]? = some v' → VR r v v') (h3 : c.size = c'.size) (h4 : ∀ (i : Nat) v v', c[i]? = some v → c'[i]? = some v' → VR r v v') : VR r (.func (.func g) f c) (.func (.func g) f' c')
  | ag {c c' : Array Value} (h3 : c.size = c'.size) (h4 : ∀ (i : Nat) v v', c[i]? = some v → c'[i]? = some v' → VR r v v') : VR r (.agg c) (.agg c')
  | tu {c c' : Array Value} (h3 : c.size = c'.size) (h4 : ∀ (i : Nat) v v', c[i]? = some v → c'[i]? = some v' → VR r v v') : VR r (.tuple c) (.tuple c')
def AR (r : Rn) (c c' : Array Value) : Prop := c.size = c'.size ∧ ∀ (i : Nat) v v', c[i]? = some v → c'[i]? = some v' → VR r v v'
def LR (r : Rn) (c c' : List Value) : Prop := c.length = c'.length ∧ ∀ (i : Nat) v v', c[i]? = some v → c'[i]? = some v' → VR r v v'
theorem AR.list {r : Rn} {c c' : Array Value} (h : AR r c c') : LR r c.toList c'.toList := ⟨by simpa using h.1, fun i v v' h1 h2 => h.2 i v v' (by simpa using h1) (by simpa using h2)⟩
theorem LR.arr {r : Rn} {c c' : List Value} (h : LR r c c') : AR r c.toArray c'.toArray := ⟨by simpa using h.1, fun i v v' h1 h2 => h.2 i v v' (by simpa using h1) (by simpa using h2)⟩
theorem LR.nil {r : Rn} : LR r [] [] := ⟨rfl, fun i v v' h => by simp at h⟩
theorem LR.cons {r : Rn} {v v' : Value} {l l' : List Value} (h : VR r v v') (hl : LR r l l') : LR r (v :: l) (v' :: l') := ⟨by simp [hl.1], fun i a a' h1 h2 => by
  cases i with
  | zero => simp at h1 h2; subst h1; subst h2; exact h
  | succ i => exact hl.2 i a a' (by simpa using h1) (by simpa using h2)⟩
theorem LR.uncons {r : Rn} {v : Value} {l l' : List Value} (h : LR r (v :: l) l') : ∃ v' q, l' = v' :: q ∧ VR r v v' ∧ LR r l q := by
  cases l' with
  | nil => have := h.1; simp at this
  | cons v' q => exact ⟨v', q, rfl, h.2 0 v v' rfl rfl, by have := h.1; simpa using this, fun i a a' h1 h2 => h.2 (i + 1) a a' (by simpa using h1) (by simpa using h2)⟩
theorem LR.nil' {r : Rn} {l' : List Value} (h : LR r [] l') : l' = [] := by have := h.1; simpa using this.symm
theorem LR.get {r : Rn} {c c' : List Value} (h : LR r c c') {i : Nat} {v : Value} (hv : c[i]? = some v) : ∃ v', c'[i]? = some v' ∧ VR r v v' := by
  have hi : i < c.length := (List.getElem?_eq_some_iff.1 hv).1
  exact ⟨c'[i]'(by rw [← h.1]; exact hi), by simp [h.1 ▸ hi], h.2 i v _ hv (by simp [h.1 ▸ hi])⟩
theorem AR.get {r : Rn} {c c' : Array Value} (h : AR r c c') {i : Nat} {v : Value} (hv : c[i]? = some v) : ∃ v', c'[i]? = some v' ∧ VR r v v' := by
  obtain ⟨v', h1, h2⟩ := h.list.get (i := i) (v := v) (by simpa using hv)
  exact ⟨v', by simpa using h1, h2⟩
theorem LR.app {r : Rn} : ∀ {a a' b b' : List Value}, LR r a a' → LR r b b' → LR r (a ++ b) (a' ++ b')
  | [], a', b, b', h, k => by rw [h.nil']; exact k
  | v :: a, a', b, b', h, k => by
    obtain ⟨v', q, rfl, h1, h2⟩ := h.uncons
    exact LR.cons h1 (LR.app h2 k)
theorem takeN_eq : ∀ (n : Nat) (l : List Value), takeN n l = l.take n
  | 0, l => by simp [takeN]
  | n + 1, [] => rfl
  | n + 1, v :: l => by simp [takeN, takeN_eq n l]
theorem dropN_eq : ∀ (n : Nat) (l : List Value), dropN n l = l.drop n
  | 0, l => rfl
  | n + 1, [] => rfl
  | n + 1, v :: l => by simp [dropN, dropN_eq n l]
theorem LR.take {r : Rn} (n : Nat) {c c' : List Value} (h : LR r c c') : LR r (c.take n) (c'.take n) := ⟨by simp [h.1], fun i v v' h1 h2 => by
  rw [List.getElem?_take] at h1 h2
  by_cases hi : i < n
  · rw [if_pos hi] at h1 h2; exact h.2 i v v' h1 h2
  · rw [if_neg hi] at h1; cases h1⟩
theorem LR.drop {r : Rn} (n : Nat) {c c' : List Value} (h : LR r c c') : LR r (c.drop n) (c'.drop n) := ⟨by simp [h.1], fun i v v' h1 h2 => by
  rw [List.getElem?_drop] at h1 h2
  exact h.2 _ v v' h1 h2⟩
theorem LR.map {r : Rn} {α : Type} (f f' : α → Value) : ∀ (l : List α), (∀ x ∈ l, VR r (f x) (f' x)) → LR r (l.map f) (l.map f')
  | [], _ => LR.nil
  | x :: l, h => LR.cons (h x (by simp)) (LR.map f f' l fun y hy => h y (by simp [hy]))
theorem VR.mono {r r' : Rn} (hr : ∀ k p, r k = some p → r' k = some p) {v v' : Value} (h : VR r v v') : VR r' v v' := by
  induction h with
  | pln h => exact .pln h
  | ptr h => exact .ptr (hr _ _ h)
  | sl h => exact .sl (hr _ _ h)
  | so h => exact .so (hr _ _ h)
  | mp h => exact .mp (hr _ _ h)
  | yl h => exact .yl (hr _ _ h)
  | fn h1 _ h3 _ i2 i4 => exact .fn h1 i2 h3 i4
  | ag h3 _ i4 => exact .ag h3 i4
  | tu h3 _ i4 => exact .tu h3 i4
theorem AR.mono {r r' : Rn} (hr : ∀ k p, r k = some p → r' k = some p) {c c' : Array Value} (h : AR r c c') : AR r' c c' := ⟨h.1, fun i v v' h1 h2 => (h.2 i v v' h1 h2).mono hr⟩
theorem LR.mono {r r' : Rn} (hr : ∀ k p, r k = some p → r' k = some p) {c c' : List Value} (h : LR r c c') : LR r' c c' := ⟨h.1, fun i v v' h1 h2 => (h.2 i v v' h1 h2).mono hr⟩
theorem pls_mem : ∀ {l : List Value}, pls l = true → ∀ v ∈ l, pl v = true
  | [], _, v, hv => by cases hv
  | a :: l, h, v, hv => by
    simp only [pls, Bool.and_eq_true] at h
    rcases List.mem_cons.1 hv with rfl | hv
    · exact h.1
    · exact pls_mem h.2 v hv
theorem LR.plain {r : Rn} {l : List Value} (h : pls l = true) : LR r l l := ⟨rfl, fun i v v' h1 h2 => by
  rw [h1] at h2; injection h2 with e; subst e
  exact .pln (pls_mem h v (List.mem_of_getElem? h1))⟩
theorem arr_same {c c' : Array Value} (h3 : c.size = c'.size) (i4 : ∀ (i : Nat) v v', c[i]? = some v → c'[i]? = some v' → pl v = true → v' = v) (hp : pls c.toList = true) : c' = c := by
  apply Array.ext h3.symm
  intro i h1 h2
  have e1 : c[i]? = some c[i] := by simp [h2]
  have e2 : c'[i]? = some c'[i] := by simp [h1]
  exact i4 i _ _ e1 e2 (pls_mem hp _ (by simp))
theorem VR.same {r : Rn} {v v' : Value} (h : VR r v v') : pl v = true → v' = v := by
  induction h with
  | pln h => exact fun _ => rfl
  | ptr h => intro h; simp [pl] at h
  | sl h => intro h; simp [pl] at h
  | so h => intro h; simp [pl] at h
  | mp h => intro h; simp [pl] at h
  | yl h => intro h; simp [pl] at h
  | @fn g f f' c c' h1 _ h3 _ i2 i4 =>
    intro h
    obtain ⟨f⟩ := f; obtain ⟨c⟩ := c; obtain ⟨f'⟩ := f'; obtain ⟨c'⟩ := c'
    cases f <;> cases c <;> simp [pl] at h
    obtain rfl : f' = [] := List.length_eq_zero_iff.1 (by simpa using h1.symm)
    obtain rfl : c' = [] := List.length_eq_zero_iff.1 (by simpa using h3.symm)
    rfl
  | @ag c c' h3 _ i4 =>
    intro h
    rw [arr_same h3 i4 (by obtain ⟨c⟩ := c; simpa [pl] using h)]
  | @tu c c' h3 _ i4 =>
    intro h
    rw [arr_same h3 i4 (by obtain ⟨c⟩ := c; simpa [pl] using h)]
theorem LR.same {r : Rn} : ∀ {l l' : List Value}, LR r l l' → pls l = true → l' = l
  | [], l', h, _ => h.nil'
  | v :: l, l', h, hp => by
    obtain ⟨v', q, rfl, h1, h2⟩ := h.uncons
    simp only [pls, Bool.and_eq_true] at hp
    rw [h1.same hp.1, LR.same h2 hp.2]
theorem VR.cells {r : Rn} {v v' : Value} (h : VR r v v') : LR r v.cells.toList v'.cells.toList := by
  cases h with
  | pln h =>
    cases v <;> try exact LR.cons (.pln h) LR.nil
    rename_i c
    obtain ⟨c⟩ := c
    exact LR.plain (show pls c = true by simpa [pl] using h)
  | ptr h => exact LR.cons (.ptr h) LR.nil
  | sl h => exact LR.cons (.sl h) LR.nil
  | so h => exact LR.cons (.so h) LR.nil
  | mp h => exact LR.cons (.mp h) LR.nil
  | yl h => exact LR.cons (.yl h) LR.nil
  | fn h1 h2 h3 h4 => exact LR.cons (.fn h1 h2 h3 h4) LR.nil
  | ag h3 h4 => exact AR.list ⟨h3, h4⟩
  | tu h3 h4 => exact LR.cons (.tu h3 h4) LR.nil
theorem VR.bool {r : Rn} {b : Bool} {v' : Value} (h : VR r (.bool b) v') : v' = .bool b := h.same rfl
theorem VR.int {r : Rn} {k : IntKind} {n : Int} {v' : Value} (h : VR r (.int k n) v') : v' = .int k n := h.same rfl
theorem VR.str {r : Rn} {s : ByteArray} {v' : Value} (h : VR r (.string s) v') : v' = .string s := h.same rfl
theorem VR.one {r : Rn} {v v' : Value} (h : VR r v v') : v'.oneCell' = v.oneCell' := by cases h <;> rfl
theorem ones_mem : ∀ {l : List Value}, ones l = true → ∀ v ∈ l, v.oneCell' = true
  | [], _, v, hv => by cases hv
  | a :: l, h, v, hv => by
    simp only [ones, Bool.and_eq_true] at h
    rcases List.mem_cons.1 hv with rfl | hv
    · exact h.1
    · exact ones_mem h.2 v hv
theorem LR.oneAll {r : Rn} : ∀ {l l' : List Value}, LR r l l' → ones l = true → ∀ v ∈ l', v.oneCell' = true
  | [], l', h, _, v, hv => by rw [h.nil'] at hv; cases hv
  | a :: l, l', h, ho, v, hv => by
    obtain ⟨v', q, rfl, h1, h2⟩ := h.uncons
    simp only [ones, Bool.and_eq_true] at ho
    rcases List.mem_cons.1 hv with rfl | hv
    · rw [h1.one]; exact ho.1
    · exact LR.oneAll h2 ho.2 v hv
/-- the slots -/
def SlR (r : Rn) (t : Tr Value) (m : Nat) (tm : Array Value) : Prop := tm.size = m ∧ m ≤ big ∧ ∀ s, VR r ((t.get s).getD undef) (tm.getD s undef)
theorem SlR.mono {r r' : Rn} (hr : ∀ k p, r k = some p → r' k = some p) {t : Tr Value} {m : Nat} {tm : Array Value} (h : SlR r t m tm) : SlR r' t m tm := ⟨h.1, h.2.1, fun s => (h.2.2 s).mono hr⟩
theorem SlR.put {r : Rn} {t : Tr Value} {m : Nat} {tm : Array Value} (h : SlR r t m tm) {d : Nat} (hd : d < m) {v v' : Value} (hv : VR r v v') : SlR r (t.set 24 d (some v)) m (tm.setIfInBounds d v') := by
  refine ⟨by simpa using h.1, h.2.1, fun s => ?_⟩
  have hb : d + 2 ≤ 2 ^ 24 := by have := h.2.1; unfold big at this; omega
  rw [Tr.get_set 24 t d _ s hb]
  by_cases e : s = d
  · subst e
    rw [if_pos rfl]
    have : (tm.setIfInBounds s v').getD s undef = v' := by simp [h.1, hd]
    rw [this]; exact hv
  · rw [if_neg e]
    have : (tm.setIfInBounds d v').getD s undef = tm.getD s undef := by simp [Array.getElem?_setIfInBounds_ne (Ne.symm e)]
    rw [this]; exact h.2.2 s
/-- a block -/
def OR (P : Program) (r : Rn) (x : Nat) : AO → Obj → Prop
  | .cells cs t op, o => ∃ a : Array Value, o = .cells a t (0, 0) ∧ a.size = cs.length + (if op = true then x * (szB P t).getD 0 else 0) ∧ ∀ (i : Nat) v, cs[i]? = some v → ∃ v', a[i]? = some v' ∧ VR r v v' ∧ v.oneCell' = true
  | .map es c, o => ∃ es' : Array MapEntry, o = .map es' c ∧ es'.size = es.length ∧ ∀ (i : Nat) e, es[i]? = some e → ∃ e', es'[i]? = some e' ∧ e'.key = e.key ∧ VR r e.val e'.val
  | .iter s pos, o => o = .stringIter s pos
  | .loop st pend t m ps asg body d, o => ∃ fn tm b y, o = .loop { state := st, pending := pend, fn := fn, tmps := tm, params := ps, assign := asg, body := body, defers := b } ∧ r d = some (b, y) ∧ SlR r t m tm
  | .dfr op, o => o = .deferred (if op = true then some [] else none)
theorem OR.mono {P : Program} {r r' : Rn} (hr : ∀ k p, r k = some p → r' k = some p) {x : Nat} {o : AO} {o' : Obj} (h : OR P r x o o') : OR P r' x o o' := by
  cases o with
  | cells cs t op =>
    obtain ⟨a, h1, h2, h3⟩ := h
    exact ⟨a, h1, h2, fun i v hv => let ⟨v', a1, a2, a3⟩ := h3 i v hv; ⟨v', a1, a2.mono hr, a3⟩⟩
  | map es c =>
    obtain ⟨a, h1, h2, h3⟩ := h
    exact ⟨a, h1, h2, fun i v hv => let ⟨v', a1, a2, a3⟩ := h3 i v hv; ⟨v', a1, a2, a3.mono hr⟩⟩
  | iter s pos => exact h
  | loop st pend t m ps asg body d =>
    obtain ⟨fn, tm, b, y, h1, h2, h3⟩ := h
    exact ⟨fn, tm, b, y, h1, hr _ _ h2, h3.mono hr⟩
  | dfr op => exact h
structure Rel (P : Program) (B : Nat) (r : Rn) (s : St) (w : World) : Prop where
  nb : s.next ≤ big
  le : s.next ≤ B
  dom : ∀ k, s.next ≤ k → k < B → r k = none
  obj : ∀ k o, s.get k = some o → ∃ b x o', r k = some (b, x) ∧ w.heap[b]? = some o' ∧ OR P r x o o'
  inj : ∀ k k' b x x', s.get k ≠ none → s.get k' ≠ none → r k = some (b, x) → r k' = some (b, x') → k = k'
  up : ∀ k, s.next ≤ k → s.T.get k = none
  hlt : ∀ k, hidden s.hid k = true → k < s.next
  gl : ∀ g, g < s.ng → r g = some (g, 0)
  gn : s.ng ≤ s.next
def wrt (s : St) (k : Nat) : Prop := s.lim ≤ k ∨ k = s.one
structure Mono (s s' : St) : Prop where
  next : s.next ≤ s'.next
  lim : s'.lim = s.lim
  one : s'.one = s.one
  hid : s'.hid = s.hid
  same : ∀ k, k < s.next → (¬ wrt s k ∨ hidden s.hid k = true) → s'.T.get k = s.T.get k
  dead : ∀ k, k < s.next → s.T.get k = none → s'.T.get k = none
  up : (∀ k, s.next ≤ k → s.T.get k = none) → ∀ k, s'.next ≤ k → s'.T.get k = none
  ng : s'.ng = s.ng
structure Ext (s s' : St) (r r' : Rn) (w w' : World) : Prop where
  rr : ∀ k, k < s.next ∨ s'.next ≤ k → r' k = r k
  size : w.heap.size ≤ w'.heap.size
  os : w'.os = w.os
  tape : w'.tape = w.tape
  output : w'.output = w.output
  frame : ∀ b, b < w.heap.size → (∀ k x, k < s.next → wrt s k → s.get k ≠ none → r k ≠ some (b, x)) → w'.heap[b]? = w.heap[b]?
  new : ∀ k b x, s.next ≤ k → s'.get k ≠ none → r' k = some (b, x) → w.heap.size ≤ b ∨ ∃ k0 x0, k0 < s.next ∧ wrt s k0 ∧ s.get k0 ≠ none ∧ r k0 = some (b, x0)
structure Good (P : Program) (B : Nat) (s s' : St) (r r' : Rn) (w w' : World) : Prop where
  mono : Mono s s'
  ext : Ext s s' r r' w w'
  rel : Rel P B r' s' w'
theorem Rel.lt {P : Program} {B : Nat} {r : Rn} {s : St} {w : World} (h : Rel P B r s w) {k : Nat} (hk : s.get k ≠ none) : k < s.next := by
  rcases Nat.lt_or_ge k s.next with h1 | h1
  · exact h1
  · exfalso; apply hk
    unfold St.get
    rw [h.up k h1]
    cases hidden s.hid k <;> rfl
theorem Mono.refl (s : St) : Mono s s := ⟨Nat.le_refl _, rfl, rfl, rfl, fun _ _ _ => rfl, fun _ _ h => h, fun h => h, rfl⟩
theorem Mono.get {s s' : St} (m : Mono s s') {k : Nat} (hk : k < s.next) (h : s'.get k ≠ none) : s.get k ≠ none := by
  unfold St.get at h ⊢
  rw [m.hid] at h
  cases hh : hidden s.hid k with
  | true => rw [hh] at h; exact absurd rfl h
  | false =>
    rw [hh] at h
    intro h0
    exact h (m.dead k hk h0)
theorem Mono.trans {a b c : St} (m : Mono a b) (n : Mono b c) : Mono a c :=
  ⟨Nat.le_trans m.next n.next, n.lim.trans m.lim, n.one.trans m.one, n.hid.trans m.hid,
   fun k hk h => (n.same k (Nat.lt_of_lt_of_le hk m.next) (by unfold wrt at *; rw [m.lim, m.one, m.hid]; exact h)).trans (m.same k hk h),
   fun k hk h => n.dead k (Nat.lt_of_lt_of_le hk m.next) (m.dead k hk h), fun h => n.up (m.up h), n.ng.trans m.ng⟩
theorem Good.refl {P : Program} {B : Nat} {s : St} {r : Rn} {w : World} (h : Rel P B r s w) : Good P B s s r r w w :=
  ⟨Mono.refl s, ⟨fun _ _ => rfl, Nat.le_refl _, rfl, rfl, rfl, fun _ _ _ => rfl, fun k b x hk hg _ => absurd (h.lt hg) (by omega)⟩, h⟩
theorem Good.up {P : Program} {B : Nat} {s s' : St} {r r' : Rn} {w w' : World} (g : Good P B s s' r r' w w') (h : Rel P B r s w) : ∀ k p, r k = some p → r' k = some p := fun k p hk => by
  rw [g.ext.rr k ?_]
  · exact hk
  · rcases Nat.lt_or_ge k s.next with h1 | h1
    · exact .inl h1
    · rcases Nat.lt_or_ge k s'.next with h2 | h2
      · have := h.dom k h1 (Nat.lt_of_lt_of_le h2 g.rel.le)
        rw [this] at hk; cases hk
      · exact .inr h2
theorem Good.trans {P : Program} {B : Nat} {a b c : St} {ra rb rc : Rn} {wa wb wc : World} (g : Good P B a b ra rb wa wb) (h : Good P B b c rb rc wb wc) : Good P B a c ra rc wa wc := by
  have hn := g.mono.next
  refine ⟨g.mono.trans h.mono, ⟨fun k hk => (h.ext.rr k (by have := h.mono.next; omega)).trans (g.ext.rr k (by have := h.mono.next; omega)), Nat.le_trans g.ext.size h.ext.size, h.ext.os.trans g.ext.os, h.ext.tape.trans g.ext.tape, h.ext.output.trans g.ext.output, fun bl hb hi => ?_, fun k bl x hk hg hr => ?_⟩, h.rel⟩
  · refine (h.ext.frame bl (Nat.lt_of_lt_of_le hb g.ext.size) fun k x hk hw hg hr => ?_).trans (g.ext.frame bl hb hi)
    have hw' : wrt a k := by unfold wrt at *; rw [← g.mono.lim, ← g.mono.one]; exact hw
    rcases Nat.lt_or_ge k a.next with h1 | h1
    · exact hi k x h1 hw' (g.mono.get h1 hg) (by rw [← g.ext.rr k (.inl h1)]; exact hr)
    · rcases g.ext.new k bl x h1 hg hr with h2 | ⟨k0, x0, e1, e2, e3, e4⟩
      · omega
      · exact hi k0 x0 e1 e2 e3 e4
  · rcases Nat.lt_or_ge k b.next with h1 | h1
    · exact g.ext.new k bl x hk (h.mono.get h1 hg) (by rw [← h.ext.rr k (.inl h1)]; exact hr)
    · rcases h.ext.new k bl x h1 hg hr with h2 | ⟨k0, x0, e1, e2, e3, e4⟩
      · exact .inl (Nat.le_trans g.ext.size h2)
      · have e2' : wrt a k0 := by unfold wrt at *; rw [← g.mono.lim, ← g.mono.one]; exact e2
        rcases Nat.lt_or_ge k0 a.next with h3 | h3
        · exact .inr ⟨k0, x0, h3, e2', g.mono.get h3 e3, by rw [← g.ext.rr k0 (.inl h3)]; exact e4⟩
        · exact g.ext.new k0 bl x0 h3 e3 e4
end Go.Proofs.YtdeghcgakkhbmaaGreat
namespace Go.Proofs.YtdeghcgakkhbmaaGreat
open Go.RowKit
theorem pv_run {α : Type} {P : Program} : ∀ {s : Sem α} {a : α}, pv P s = some a → ∀ w, s.run P w = .ok a w
  | .pure a, b, h, w => by simp [pv] at h; subst h; rfl
  | .program k, b, h, w => by simp only [pv] at h; exact pv_run (s := k P) h w
  | .mark m k, b, h, w => by simp only [pv] at h; exact pv_run (s := k) h w
  | .load .., _, h, _ => by simp [pv] at h
  | .store .., _, h, _ => by simp [pv] at h
  | .new .., _, h, _ => by simp [pv] at h
  | .shape .., _, h, _ => by simp [pv] at h
  | .freeze .., _, h, _ => by simp [pv] at h
  | .frozen .., _, h, _ => by simp [pv] at h
  | .getObj .., _, h, _ => by simp [pv] at h
  | .setObj .., _, h, _ => by simp [pv] at h
  | .choose .., _, h, _ => by simp [pv] at h
  | .sys .., _, h, _ => by simp [pv] at h
  | .halt .., _, h, _ => by simp [pv] at h
theorem aggB_true {P : Program} {t : TypeId} (h : aggB P t = some true) (w : World) : (isAgg t).run P w = .ok true w := by
  unfold aggB at h
  cases hu : P.underlying t with
  | none => rw [hu] at h; cases h
  | some d => rw [hu] at h; cases d <;> simp at h <;> simp [isAgg, run_underlying hu]
theorem aggB_false {P : Program} {t : TypeId} (h : aggB P t = some false) (w : World) : (isAgg t).run P w = .ok false w := by
  unfold aggB at h
  cases hu : P.underlying t with
  | none => rw [hu] at h; cases h
  | some d => rw [hu] at h; cases d <;> simp at h <;> simp [isAgg, run_underlying hu]
theorem szB_run {P : Program} {t : TypeId} {n : Nat} (h : szB P t = some n) (w : World) : (sizeOf t).run P w = .ok n w := by
  unfold szB at h
  cases hi : P.info? t with
  | none => rw [hi] at h; cases h
  | some i => rw [hi] at h; simp at h; subst h; simp [sizeOf, typeInfo, hi]
theorem partB_run {P : Program} {r : Rn} {t : TypeId} {cs cs' : Array Value} {off : Nat} {v : Value} (h : partB P t cs off = some v) (hc : AR r cs cs') : ∃ v', VR r v v' ∧ ∀ w, (part t cs' off).run P w = .ok v' w := by
  unfold partB at h
  split at h
  · rename_i n ha hs
    injection h with h; subst h
    refine ⟨.agg (cs'.extract off (off + n)), ?_, fun w => by simp [part, aggB_true ha, szB_run hs]⟩
    have e : ∀ a : Array Value, a.extract off (off + n) = ((a.toList.drop off).take n).toArray := fun a => by apply Array.ext'; simp
    rw [e, e]
    obtain ⟨h1, h2⟩ := ((hc.list.drop off).take n).arr
    exact .ag h1 h2
  · rename_i ha hs
    obtain ⟨v', h1, h2⟩ := hc.get h
    exact ⟨v', h2, fun w => by simp [part, aggB_false ha, h1]⟩
  · cases h
theorem plain_run {P : Program} {r : Rn} {ρ ρ' : Operand → Value} {o : Oper} {v : Value} (h : pvV P ρ o = some v) (hs : ∀ cs b, o.op ≠ .select cs b) (hρ : ∀ x ∈ o.op.operands, VR r (ρ x) (ρ' x)) (hp : ∀ x ∈ o.op.operands, pl (ρ x) = true) :
    ∃ v', VR r v v' ∧ ∀ w, (execOp ρ' o).run P w = .ok (.value v') w := by
  have e := execOp_congr (ρ := ρ') (ρ' := ρ) o hs fun x hx => (hρ x hx).same (hp x hx)
  unfold pvV at h
  split at h
  · rename_i v0 hpv
    cases hv : pl v0 with
    | false => rw [hv] at h; cases h
    | true =>
      rw [hv] at h
      injection h with h; subst h
      exact ⟨v0, .pln hv, fun w => by rw [e]; exact pv_run hpv w⟩
  · cases h
theorem fill_foldl {r : Rn} (off : Nat) : ∀ (l l' : List Value) (n : Nat) (c c' : Array Value), LR r l l' → AR r c c' → AR r ((l.zipIdx n).foldl (fun cs (x : Value × Nat) => cs.setIfInBounds (off + x.2) x.1) c) ((l'.zipIdx n).foldl (fun cs (x : Value × Nat) => cs.setIfInBounds (off + x.2) x.1) c')
  | [], l', n, c, c', h, hc => by rw [h.nil']; exact hc
  | v :: l, l', n, c, c', h, hc => by
    obtain ⟨v', q, rfl, h1, h2⟩ := h.uncons
    simp only [List.zipIdx_cons, List.foldl_cons]
    refine fill_foldl off l q (n + 1) _ _ h2 ⟨by simp [hc.1], fun i a a' e1 e2 => ?_⟩
    rw [Array.getElem?_setIfInBounds] at e1 e2
    by_cases hi : off + n = i
    · subst hi
      rw [if_pos rfl] at e1 e2
      by_cases hs : off + n < c.size
      · rw [if_pos hs] at e1; rw [if_pos (hc.1 ▸ hs)] at e2
        injection e1 with e1; injection e2 with e2; subst e1; subst e2; exact h1
      · rw [if_neg hs] at e1; cases e1
    · rw [if_neg hi] at e1 e2
      exact hc.2 i a a' e1 e2
theorem fill_ok {r : Rn} (place : Nat → Option (Nat × Nat)) : ∀ (ps ps' : List (Nat × Value)) (c c' out : Array Value), ps.map (·.1) = ps'.map (·.1) → (∀ (i : Nat) (p p' : Nat × Value), ps[i]? = some p → ps'[i]? = some p' → VR r p.2 p'.2) → AR r c c' → Instr.fill place c ps = some out → ∃ out', Instr.fill place c' ps' = some out' ∧ AR r out out'
  | [], ps', c, c', out, e, hp, hc, h => by
    cases ps' with
    | nil => simp [Instr.fill] at h; subst h; exact ⟨c', rfl, hc⟩
    | cons p q => simp at e
  | (i, v) :: ps, ps', c, c', out, e, hp, hc, h => by
    cases ps' with
    | nil => simp at e
    | cons p q =>
      obtain ⟨i', v'⟩ := p
      simp only [List.map_cons, List.cons.injEq] at e
      obtain ⟨rfl, e⟩ := e
      have hv : VR r v v' := hp 0 _ _ rfl rfl
      have hcv := hv.cells
      have hsz : v.cells.size = v'.cells.size := by simpa using hcv.1
      simp only [Instr.fill] at h ⊢
      cases hpl : place i with
      | none => rw [hpl] at h; cases h
      | some ab =>
        obtain ⟨a, b⟩ := ab
        rw [hpl] at h
        simp only at h ⊢
        split at h
        · cases h
        · rename_i hn
          rw [if_neg (by rw [← hsz, ← hc.1]; exact hn)]
          refine fill_ok place ps q _ _ out e (fun k p p' h1 h2 => hp (k + 1) p p' (by simpa using h1) (by simpa using h2)) ?_ h
          have := fill_foldl (r := r) a v.cells.toList v'.cells.toList 0 c c' hcv hc
          have fe : ∀ (b c : Array Value), b.zipIdx.foldl (fun cs (x : Value × Nat) => cs.setIfInBounds (a + x.2) x.1) c = b.toList.zipIdx.foldl (fun cs (x : Value × Nat) => cs.setIfInBounds (a + x.2) x.1) c := fun b c => by rw [← Array.foldl_toList, Array.toList_zipIdx]
          rw [← fe, ← fe] at this
          exact this
theorem VR.undef {r : Rn} : VR r undef undef := .pln rfl
theorem zeroB_some {P : Program} {t : TypeId} {z : Value} (h : zeroB P t = some z) : ∃ i, P.info? t = some i ∧ i.zero = some z ∧ pl z = true := by
  unfold zeroB at h
  cases hi : P.info? t with
  | none => rw [hi] at h; cases h
  | some it =>
    rw [hi] at h
    simp only [Option.bind_some] at h
    cases hz : it.zero with
    | none => rw [hz] at h; cases h
    | some z' =>
      rw [hz] at h
      simp only [Option.bind_some] at h
      cases e : pl z' with
      | true => rw [e] at h; injection h with h; subst h; exact ⟨it, rfl, hz, e⟩
      | false => rw [e] at h; cases h
theorem built_ok {P : Program} {r : Rn} {t : TypeId} {ps ps' : List (Nat × Value)} {out : Array Value} (hz : (zeroB P t).isSome = true) (e : ps.map (·.1) = ps'.map (·.1)) (hp : ∀ (i : Nat) (p p' : Nat × Value), ps[i]? = some p → ps'[i]? = some p' → VR r p.2 p'.2) (h : P.built t ps = some out) :
    ∃ out', P.built t ps' = some out' ∧ AR r out out' := by
  obtain ⟨z, hz⟩ := Option.isSome_iff_exists.1 hz
  obtain ⟨it, hi, hzz, hpz⟩ := zeroB_some hz
  have hc : AR r z.cells z.cells := by have := (VR.pln (r := r) hpz).cells; exact ⟨rfl, fun i a a' h1 h2 => this.2 i a a' (by simpa using h1) (by simpa using h2)⟩
  unfold Program.built at h ⊢
  cases hu : P.underlying t with
  | none => simp [hi, hu] at h
  | some d =>
    cases d <;> try (simp [hi, hu] at h; done)
    · simp only [hi, hu, hzz] at h ⊢
      cases hie : P.info? ‹TypeId› with
      | none => simp [hie] at h
      | some ie => simp only [hie] at h ⊢; exact fill_ok _ ps ps' _ _ out e hp hc h
    · simp only [hi, hu, hzz] at h ⊢
      rename_i fs
      cases hm : fs.toList.mapM (fun f => (P.info? f.type).map fun i => (f.offset, i.size)) with
      | none => simp [hm] at h
      | some places => simp only [hm] at h ⊢; exact fill_ok _ ps ps' _ _ out e hp hc h
theorem equal_run {P : Program} {t : TypeId} {x y : Value} {b : Bool} {w : World} (h : (Op.equalIn (9999 + 1) t x y).run P w = .ok b w) : (Op.equal t x y).run P w = .ok b w := h
theorem nilB_run {P : Program} {r : Rn} {t : TypeId} {x y x' y' : Value} (h : nilB P t x y = true) (hx : VR r x x') (hy : VR r y y') (w : World) : (Op.equal t x' y').run P w = .ok false w ∧ (∀ op : BinOp, ∀ a b : Operand, (eqGuard op t a b x' y').run P w = .ok () w) ∧
    binOp .eql t x' y' = (do pure (.bool (← Op.equal t x' y'))) ∧ binOp .neq t x' y' = (do pure (.bool (!(← Op.equal t x' y')))) := by
  have eg : ∀ (op : BinOp) (a b : Operand) (u v : Value), (∀ c, u ≠ .agg c) → u ≠ .nilIface → (eqGuard op t a b u v).run P w = .ok () w := fun op a b u v h1 h2 => by
    unfold eqGuard
    cases op <;> cases u <;> first | rfl | exact absurd rfl (h1 _) | exact absurd rfl h2
  unfold nilB at h
  split at h <;> first | (cases h; done) | skip
  all_goals
    rename_i hu
    cases hx <;> cases hy <;> (try (rename_i hq; simp [pl] at hq; done)) <;> refine ⟨equal_run ?_, fun op a b => eg op a b _ _ (by intro c h; cases h) (by intro h; cases h), rfl, rfl⟩ <;> rw [Op.equalIn] <;> simp [run_underlying hu]
end Go.Proofs.YtdeghcgakkhbmaaGreat
namespace Go.Proofs.YtdeghcgakkhbmaaGreat
open Go.RowKit
theorem VR.tup {r : Rn} {c : Array Value} {v' : Value} (h : VR r (.tuple c) v') : ∃ c', v' = .tuple c' ∧ AR r c c' := by
  cases h with
  | pln h => obtain ⟨c⟩ := c; exact ⟨⟨c⟩, rfl, (LR.plain (by simpa [pl] using h)).arr⟩
  | tu h3 h4 => exact ⟨_, rfl, h3, h4⟩
theorem VR.agg {r : Rn} {c : Array Value} {v' : Value} (h : VR r (.agg c) v') : ∃ c', v' = .agg c' ∧ AR r c c' := by
  cases h with
  | pln h => obtain ⟨c⟩ := c; exact ⟨⟨c⟩, rfl, (LR.plain (by simpa [pl] using h)).arr⟩
  | ag h3 h4 => exact ⟨_, rfl, h3, h4⟩
theorem VR.pt {r : Rn} {k off : Nat} {v' : Value} (h : VR r (.pointer (some ⟨k, off, none⟩)) v') : ∃ b x, r k = some (b, x) ∧ v' = .pointer (some ⟨b, off, none⟩) := by
  cases h with
  | pln h => simp [pl] at h
  | ptr h => exact ⟨_, _, h, rfl⟩
theorem VR.ptr' {r : Rn} {a : Addr} {v' : Value} (h : VR r (.pointer (some a)) v') : ∃ k off b x, a = ⟨k, off, none⟩ ∧ r k = some (b, x) ∧ v' = .pointer (some ⟨b, off, none⟩) := by
  cases h with
  | pln h => simp [pl] at h
  | ptr h => exact ⟨_, _, _, _, rfl, h, rfl⟩
theorem VR.slc {r : Rn} {a : Addr} {n c : Nat} {v' : Value} (h : VR r (.slice (some a) n c) v') : ∃ k off b x, r k = some (b, x) ∧ ((a = ⟨k, off, none⟩ ∧ v' = .slice (some ⟨b, off, none⟩) n c) ∨ (a = ⟨k, off, some 0⟩ ∧ v' = .slice (some ⟨b, off, none⟩) n (c + x))) := by
  cases h with
  | pln h => simp [pl] at h
  | sl h => exact ⟨_, _, _, _, h, .inl ⟨rfl, rfl⟩⟩
  | so h => exact ⟨_, _, _, _, h, .inr ⟨rfl, rfl⟩⟩
theorem ival_some {v : Value} {n : Nat} (h : ival v = some n) : ∃ k, v = .int k (n : Int) := by
  unfold ival at h
  split at h
  · split at h
    · injection h with h; subst h; exact ⟨_, rfl⟩
    · cases h
  · cases h
theorem VR.ival {r : Rn} {v v' : Value} {n : Nat} (h : VR r v v') (hi : Go.Proofs.YtdeghcgakkhbmaaGreat.ival v = some n) : ∃ k, v' = .int k (n : Int) := by
  obtain ⟨k, rfl⟩ := ival_some hi
  exact ⟨k, h.int⟩
theorem addr_add (b off n : Nat) : (⟨b, off, none⟩ : Addr).add n = ⟨b, off + n, none⟩ := by unfold Addr.add; split <;> simp_all
theorem sliceBound_run {P : Program} (k : IntKind) (n y : Nat) (c : BoundsCode) (h : n ≤ y) (w : World) : (Instr.sliceBound (.int k (n : Int)) y c).run P w = .ok n w := by
  have h1 : (n : Int) ≤ (y : Int) := by omega
  simp [Instr.sliceBound, asIntOf, h1]
theorem bnd_some {v : Value} {d n : Nat} (h : bnd (some v) d = some n) : ival v = some n := h
section
variable {P : Program} {r : Rn} {ρ ρ' : Operand → Value} {o : Oper} {v : Value}
theorem slB_ok {t e : TypeId} {sz len cap : Nat} {a : Option Addr} {x' : Value} {lo hi mx lo' hi' mx' : Option Value} (hu : P.underlying t = some (.slice e)) (hsz : szB P e = some sz) (hx : VR r (.slice a len cap) x')
    (hlo : (lo = none ∧ lo' = none) ∨ ∃ u u', lo = some u ∧ lo' = some u' ∧ VR r u u') (hhi : (hi = none ∧ hi' = none) ∨ ∃ u u', hi = some u ∧ hi' = some u' ∧ VR r u u') (hmx : (mx = none ∧ mx' = none) ∨ ∃ u u', mx = some u ∧ mx' = some u' ∧ VR r u u')
    (h : slB sz a len cap lo hi mx = some v) : ∃ v', VR r v v' ∧ ∀ w, (Instr.sliceAt t x' lo' hi' mx').run P w = .ok v' w := by
  unfold slB at h
  split at h
  case h_2 => cases h
  rename_i m hh l e1 e2 e3
  cases hc : (Nat.ble m cap && Nat.ble hh m && Nat.ble l hh && (mx.isNone || hi.isSome)) with
  | false => rw [hc] at h; cases h
  | true =>
    rw [hc] at h
    simp only [cond_true] at h
    simp only [Bool.and_eq_true, Nat.ble_eq] at hc
    obtain ⟨⟨⟨c1, c2⟩, c3⟩, c4⟩ := hc
    -- the bounds
    have key : ∀ (b' : Option Addr) (cap' m' : Nat), (mx = none → m' = cap') → (mx ≠ none → m' = m) → m ≤ m' → m ≤ cap' →
        ∀ w, (Instr.sliceAt t (.slice b' len cap') lo' hi' mx').run P w = .ok (.slice (if m' = l then b' else b'.map (·.add (l * sz))) (hh - l) (m' - l)) w := by
      intro b' cap' m' g1 g2 g3 g4 w
      have hb : (Instr.sliceBounds true len cap' lo' hi' mx').run P w = .ok (l, hh, m') w := by
        rcases hmx with ⟨rfl, rfl⟩ | ⟨um, um', rfl, rfl, vm⟩
        · have := g1 rfl; subst this
          rcases hhi with ⟨rfl, rfl⟩ | ⟨uh, uh', rfl, rfl, vh⟩
          · simp only [bnd, Option.some.injEq] at e2; subst e2
            rcases hlo with ⟨rfl, rfl⟩ | ⟨ul, ul', rfl, rfl, vl⟩
            · simp only [bnd, Option.some.injEq] at e3; subst e3
              simp [Instr.sliceBounds]
            · obtain ⟨k, rfl⟩ := vl.ival (bnd_some e3)
              simp [Instr.sliceBounds, sliceBound_run k l len _ c3]
          · obtain ⟨kh, rfl⟩ := vh.ival (bnd_some e2)
            rcases hlo with ⟨rfl, rfl⟩ | ⟨ul, ul', rfl, rfl, vl⟩
            · simp only [bnd, Option.some.injEq] at e3; subst e3
              simp [Instr.sliceBounds, sliceBound_run kh hh m' _ (by omega)]
            · obtain ⟨k, rfl⟩ := vl.ival (bnd_some e3)
              simp [Instr.sliceBounds, sliceBound_run k l hh _ c3, sliceBound_run kh hh m' _ (by omega)]
        · have := g2 (by simp); subst this
          obtain ⟨km, rfl⟩ := vm.ival (bnd_some e1)
          rcases hhi with ⟨rfl, rfl⟩ | ⟨uh, uh', rfl, rfl, vh⟩
          · simp at c4
          · obtain ⟨kh, rfl⟩ := vh.ival (bnd_some e2)
            rcases hlo with ⟨rfl, rfl⟩ | ⟨ul, ul', rfl, rfl, vl⟩
            · simp only [bnd, Option.some.injEq] at e3; subst e3
              simp [Instr.sliceBounds, sliceBound_run kh hh m' _ (by omega), sliceBound_run km m' cap' _ g4]
            · obtain ⟨k, rfl⟩ := vl.ival (bnd_some e3)
              simp [Instr.sliceBounds, sliceBound_run k l hh _ c3, sliceBound_run kh hh m' _ (by omega), sliceBound_run km m' cap' _ g4]
      simp [Instr.sliceAt, Instr.slice, run_underlying hu, hb, szB_run hsz]
    cases a with
    | none =>
      injection h with h; subst h
      rw [hx.same rfl]
      have hm : mx = none → m = cap := fun e => by subst e; simpa [bnd] using e1.symm
      refine ⟨.slice none (hh - l) (m - l), .pln rfl, fun w => ?_⟩
      rw [key none cap m (fun e => hm e) (fun _ => rfl) (Nat.le_refl _) c1 w]
      simp
    | some a =>
      obtain ⟨k, off, b, x, hr, hx⟩ := hx.slc
      rcases hx with ⟨rfl, rfl⟩ | ⟨rfl, rfl⟩
      · have hm : mx = none → m = cap := fun e => by subst e; simpa [bnd] using e1.symm
        have h' : v = .slice (some ⟨k, if m = l then off else off + l * sz, none⟩) (hh - l) (m - l) := by
          simp only at h
          injection h with h; subst h; rw [bq]; split <;> rfl
        subst h'
        refine ⟨.slice (some ⟨b, if m = l then off else off + l * sz, none⟩) (hh - l) (m - l), .sl hr, fun w => ?_⟩
        rw [key (some ⟨b, off, none⟩) cap m (fun e => hm e) (fun _ => rfl) (Nat.le_refl _) c1 w]
        split <;> simp [addr_add]
      · rcases hmx with ⟨hm1, hm2⟩ | ⟨um, um', hm1, hm2, vm⟩
        · have hm : m = cap := by subst hm1; simpa [bnd] using e1.symm
          subst hm
          rw [hm1] at h
          simp only at h
          rw [bq] at h
          split at h
          · cases h
          · rename_i hne
            injection h with h; subst h
            refine ⟨.slice (some ⟨b, off + l * sz, none⟩) (hh - l) (m - l + x), .so hr, fun w => ?_⟩
            rw [key (some ⟨b, off, none⟩) (m + x) (m + x) (fun _ => rfl) (fun e => absurd hm1 e) (by omega) (by omega) w, if_neg (by omega)]
            simp only [Option.map_some, addr_add]
            congr 2
            omega
        · have h' : v = .slice (some ⟨k, if m = l then off else off + l * sz, none⟩) (hh - l) (m - l) := by
            rw [hm1] at h
            simp only at h
            injection h with h; subst h; rw [bq]; split <;> rfl
          subst h'
          refine ⟨.slice (some ⟨b, if m = l then off else off + l * sz, none⟩) (hh - l) (m - l), .sl hr, fun w => ?_⟩
          rw [key (some ⟨b, off, none⟩) (cap + x) m (fun e => by rw [hm1] at e; cases e) (fun _ => rfl) (Nat.le_refl _) (by omega) w]
          split <;> simp [addr_add]
theorem mapR (l : List Operand) (h : ∀ x ∈ l, VR r (ρ x) (ρ' x)) : LR r (l.map ρ) (l.map ρ') := LR.map ρ ρ' l h
theorem arrR {c : Array Operand} (h : ∀ x ∈ c, VR r (ρ x) (ρ' x)) : AR r (c.map ρ) (c.map ρ') := by
  have := (mapR (r := r) (ρ := ρ) (ρ' := ρ') c.toList (fun x hx => h x (by simpa using hx))).arr
  have e : ∀ f : Operand → Value, (c.toList.map f).toArray = c.map f := fun f => by apply Array.ext'; simp
  rwa [e, e] at this
theorem optR {x : Option Operand} (h : ∀ y, x = some y → VR r (ρ y) (ρ' y)) : (x.map ρ = none ∧ x.map ρ' = none) ∨ ∃ u u', x.map ρ = some u ∧ x.map ρ' = some u' ∧ VR r u u' := by
  cases x with
  | none => exact .inl ⟨rfl, rfl⟩
  | some y => exact .inr ⟨_, _, rfl, rfl, h y rfl⟩
theorem execP_ok (h : execP P ρ o = some v) (hρ : ∀ x ∈ o.op.operands, VR r (ρ x) (ρ' x)) : ∃ v', VR r v v' ∧ ∀ w, (execOp ρ' o).run P w = .ok (.value v') w := by
  unfold execP at h
  split at h
  · rename_i x hop
    injection h with h; subst h
    exact ⟨ρ' x, hρ x (by simp [hop, Op.operands]), fun w => by simp [execOp, hop]⟩
  · rename_i x hop
    injection h with h; subst h
    exact ⟨ρ' x, hρ x (by simp [hop, Op.operands]), fun w => by simp [execOp, hop]⟩
  · rename_i c a b hop
    split at h
    · rename_i t hc
      injection h with h; subst h
      have hc' : ρ' c = .bool t := by have := hρ c (by simp [hop, Op.operands]); rw [hc] at this; exact this.bool
      cases t with
      | true => exact ⟨ρ' a, hρ a (by simp [hop, Op.operands]), fun w => by simp [execOp, hop, hc', asBool]⟩
      | false => exact ⟨ρ' b, hρ b (by simp [hop, Op.operands]), fun w => by simp [execOp, hop, hc', asBool]⟩
    · cases h
  · rename_i x i hop
    split at h
    · rename_i vs hx
      have hx' := hρ x (by simp [hop, Op.operands])
      rw [hx] at hx'
      obtain ⟨c', e, ha⟩ := hx'.tup
      obtain ⟨v', h1, h2⟩ := ha.get h
      exact ⟨v', h2, fun w => by simp [execOp, hop, e, Instr.extract, h1]⟩
    · cases h
  · rename_i t x f hop
    split at h
    · rename_i fs cs hu hx
      split at h
      · rename_i fd hfd
        have hx' := hρ x (by simp [hop, Op.operands])
        rw [hx] at hx'
        obtain ⟨c', e, ha⟩ := hx'.agg
        obtain ⟨v', h1, h2⟩ := partB_run h ha
        exact ⟨v', h1, fun w => by simp [execOp, hop, e, Instr.field, run_underlying hu, hfd, asAgg, h2]⟩
      · cases h
    · cases h
  · rename_i t x i hop
    cases hc : (pl (ρ x) && pl (ρ i)) with
    | true =>
      rw [hc] at h
      simp only [Bool.and_eq_true] at hc
      exact plain_run h (by intro cs b e; rw [hop] at e; cases e) hρ (by intro y hy; simp [hop, Op.operands] at hy; rcases hy with rfl | rfl <;> first | exact hc.1 | exact hc.2)
    | false =>
      rw [hc] at h
      simp only [cond_false] at h
      split at h
      · rename_i n e cs k hu hx hk
        split at h
        · rename_i sz hsz
          have hx' := hρ x (by simp [hop, Op.operands])
          rw [hx] at hx'
          obtain ⟨c', e', ha⟩ := hx'.agg
          obtain ⟨ki, hi⟩ := (hρ i (by simp [hop, Op.operands])).ival hk
          cases hlt : Nat.blt k n with
          | false => rw [hlt] at h; cases h
          | true =>
            rw [hlt] at h
            have hlt' : k < n := by simp [Nat.blt] at hlt; omega
            obtain ⟨v', h1, h2⟩ := partB_run h ha
            exact ⟨v', h1, fun w => by simp [execOp, hop, e', hi, Instr.index, asIntOf, run_underlying hu, hlt', szB_run hsz, h2]⟩
        · cases h
      · cases h
  · rename_i t parts hop
    cases hz : (zeroB P t).isSome with
    | false => rw [hz] at h; cases h
    | true =>
      rw [hz] at h
      simp only [cond_true, Option.map_eq_some_iff] at h
      obtain ⟨out, h, rfl⟩ := h
      have hp : ∀ p ∈ parts.toList, VR r (ρ p.2) (ρ' p.2) := fun p hp => hρ p.2 (by simp only [hop, Op.operands, List.mem_toArray, List.mem_map]; exact ⟨p, hp, rfl⟩)
      obtain ⟨out', h1, h2⟩ := built_ok (r := r) (ps' := parts.toList.map fun p => (p.1, ρ' p.2)) hz (by simp) (fun i p p' e1 e2 => by
        simp only [List.getElem?_map, Option.map_eq_some_iff] at e1 e2
        obtain ⟨q, hq, rfl⟩ := e1
        obtain ⟨q', hq', rfl⟩ := e2
        rw [hq] at hq'; injection hq' with hq'; subst hq'
        exact hp q (List.mem_of_getElem? hq)) h
      refine ⟨.agg out', .ag h2.1 h2.2, fun w => ?_⟩
      have := run_build (P := P) w t (parts.map fun p => (p.1, ρ' p.2)) out' (by simpa using h1)
      simp [execOp, hop, this]
  · rename_i g first cap hop
    injection h with h; subst h
    obtain ⟨a1, a2⟩ := arrR (r := r) (ρ := ρ) (ρ' := ρ') (c := first) (fun x hx => hρ x (by simp [hop, Op.operands, hx]))
    obtain ⟨a3, a4⟩ := arrR (r := r) (ρ := ρ) (ρ' := ρ') (c := cap) (fun x hx => hρ x (by simp [hop, Op.operands, hx]))
    exact ⟨.func (.func g) (first.map ρ') (cap.map ρ'), .fn a1 a2 a3 a4, fun w => by simp [execOp, hop, Instr.makeFunc]⟩
  · rename_i x hop
    have hx := hρ x (by simp [hop, Op.operands])
    split at h
    · rename_i a e
      injection h with h; subst h
      rw [e] at hx
      obtain ⟨k, off, b, y, rfl, hr, e'⟩ := hx.ptr'
      exact ⟨_, .ptr hr, fun w => by simp [execOp, hop, e']⟩
    · rename_i g a b e
      injection h with h; subst h
      rw [e] at hx
      refine ⟨ρ' x, hx, fun w => ?_⟩
      generalize hu : ρ' x = u at hx
      cases hx with
      | pln h => simp [execOp, hop, hu]
      | fn h1 h2 h3 h4 => simp [execOp, hop, hu]
    · rename_i g a b e
      injection h with h; subst h
      rw [e] at hx
      refine ⟨ρ' x, hx, fun w => ?_⟩
      generalize hu : ρ' x = u at hx
      cases hx with
      | pln h => simp [pl] at h
      | yl h => simp [execOp, hop, hu]
    · cases h
  · rename_i op t x y yt hop
    have hx := hρ x (by simp [hop, Op.operands])
    have hy := hρ y (by simp [hop, Op.operands])
    cases hn : eqNil P t op (ρ x) (ρ y) with
    | some u =>
      rw [hn] at h
      injection h with h; subst h
      unfold eqNil at hn
      cases hb : nilB P t (ρ x) (ρ y) with
      | false => rw [hb] at hn; cases hn
      | true =>
        rw [hb] at hn
        simp only [cond_true] at hn
        split at hn
        · injection hn with hn; subst hn
          refine ⟨.bool false, .pln rfl, fun w => ?_⟩
          obtain ⟨n1, n2, n3, n4⟩ := nilB_run hb hx hy w
          simp [execOp, hop, n2, n3, n1]
        · injection hn with hn; subst hn
          refine ⟨.bool true, .pln rfl, fun w => ?_⟩
          obtain ⟨n1, n2, n3, n4⟩ := nilB_run hb hx hy w
          simp [execOp, hop, n2, n4, n1]
        · cases hn
    | none =>
      rw [hn] at h
      simp only at h
      cases hc : (pl (ρ x) && pl (ρ y)) with
      | false => rw [hc] at h; cases h
      | true =>
        rw [hc] at h
        simp only [Bool.and_eq_true] at hc
        exact plain_run h (by intro cs b e; rw [hop] at e; cases e) hρ (by intro z hz; simp [hop, Op.operands] at hz; rcases hz with rfl | rfl <;> first | exact hc.1 | exact hc.2)
  · rename_i op t x hop
    cases hc : pl (ρ x) with
    | false => rw [hc] at h; cases h
    | true =>
      rw [hc] at h
      exact plain_run h (by intro cs b e; rw [hop] at e; cases e) hρ (by intro z hz; simp [hop, Op.operands] at hz; subst hz; exact hc)
  · rename_i s d x hop
    cases hc : pl (ρ x) with
    | false => rw [hc] at h; cases h
    | true =>
      rw [hc] at h
      exact plain_run h (by intro cs b e; rw [hop] at e; cases e) hρ (by intro z hz; simp [hop, Op.operands] at hz; subst hz; exact hc)
  · rename_i s x f hop
    have hx := hρ x (by simp [hop, Op.operands])
    split at h
    · rename_i k off fs e hu
      split at h
      · rename_i fd hfd
        split at h
        · rename_i n hsz
          injection h with h; subst h
          rw [e] at hx
          obtain ⟨b, y, hr, e'⟩ := hx.pt
          exact ⟨_, .ptr hr, fun w => by simp [execOp, hop, e', Instr.fieldAt, run_underlying hu, hfd, Instr.sureAddr, fieldPlace, szB_run hsz, addr_add]⟩
        · cases h
      · cases h
    · cases h
  · rename_i t x i hop
    have hx := hρ x (by simp [hop, Op.operands])
    have hi := hρ i (by simp [hop, Op.operands])
    split at h
    · rename_i len e k off n hu hx0 hk
      split at h
      · rename_i sz hsz
        cases hlt : Nat.blt n len with
        | false => rw [hlt] at h; cases h
        | true =>
          rw [hlt] at h
          injection h with h; subst h
          have hlt' : n < len := by simp [Nat.blt] at hlt; omega
          rw [hx0] at hx
          obtain ⟨b, y, hr, e'⟩ := hx.pt
          obtain ⟨ki, hi⟩ := hi.ival hk
          exact ⟨_, .ptr hr, fun w => by simp [execOp, hop, e', hi, Instr.indexAt, asIntOf, run_underlying hu, Instr.sureAddr, hlt', szB_run hsz, addr_add]⟩
      · cases h
    · rename_i e k off sp len cap n hu hx0 hk
      split at h
      · rename_i sz hsz
        cases hlt : Nat.blt n len with
        | false => rw [hlt] at h; cases h
        | true =>
          rw [hlt] at h
          injection h with h; subst h
          have hlt' : n < len := by simp [Nat.blt] at hlt; omega
          rw [hx0] at hx
          obtain ⟨k', off', b, y, hr, hx⟩ := hx.slc
          obtain ⟨ki, hi⟩ := hi.ival hk
          rcases hx with ⟨e1, e'⟩ | ⟨e1, e'⟩ <;> injection e1 with e1 e2 e3 <;> subst e1 <;> subst e2 <;>
            exact ⟨_, .ptr hr, fun w => by simp [execOp, hop, e', hi, Instr.indexAt, asIntOf, run_underlying hu, hlt', szB_run hsz, addr_add]⟩
      · cases h
    · cases h
  · rename_i t x lo hi mx hop
    have hx := hρ x (by simp [hop, Op.operands])
    split at h
    · rename_i e a len cap hu e0
      split at h
      · rename_i sz hsz
        rw [e0] at hx
        obtain ⟨v', h1, h2⟩ := slB_ok hu hsz hx (optR fun y hy => hρ y (by simp [hop, Op.operands, hy])) (optR fun y hy => hρ y (by simp [hop, Op.operands, hy])) (optR fun y hy => hρ y (by simp [hop, Op.operands, hy])) h
        exact ⟨v', h1, fun w => by simp [execOp, hop, h2]⟩
      · cases h
    · cases hc : (pl (ρ x) && ((lo.toList ++ hi.toList ++ mx.toList).all fun y => pl (ρ y))) with
      | false => rw [hc] at h; cases h
      | true =>
        rw [hc] at h
        simp only [Bool.and_eq_true, List.all_eq_true] at hc
        exact plain_run h (by intro cs b e; rw [hop] at e; cases e) hρ (by
          intro z hz
          simp only [hop, Op.operands, Array.mem_append, List.mem_toArray, List.mem_singleton, Option.mem_toArray] at hz
          rcases hz with ((rfl | hz) | hz) | hz
          · exact hc.1
          · exact hc.2 z (by simp [hz])
          · exact hc.2 z (by simp [hz])
          · exact hc.2 z (by simp [hz]))
    · cases h
  · cases h
end
end Go.Proofs.YtdeghcgakkhbmaaGreat
namespace Go.Proofs.YtdeghcgakkhbmaaGreat
open Go.RowKit
structure Push1 (w w' : World) (o : Obj) : Prop where
  size : w'.heap.size = w.heap.size + 1
  last : w'.heap[w.heap.size]? = some o
  rest : ∀ b, b < w.heap.size → w'.heap[b]? = w.heap[b]?
  os : w'.os = w.os
  tape : w'.tape = w.tape
  output : w'.output = w.output
structure Set1 (w w' : World) (b : Nat) (o : Obj) : Prop where
  size : w'.heap.size = w.heap.size
  at_ : w'.heap[b]? = some o
  rest : ∀ k, k ≠ b → w'.heap[k]? = w.heap[k]?
  os : w'.os = w.os
  tape : w'.tape = w.tape
  output : w'.output = w.output
theorem Push1.alloc (w : World) (o : Obj) : Push1 w (w.alloc o) o := ⟨by show (w.heap.push o).size = _; simp, by show (w.heap.push o)[w.heap.size]? = _; simp, fun b hb => by show (w.heap.push o)[b]? = _; simp [Array.getElem?_push, Nat.ne_of_lt hb], rfl, rfl, rfl⟩
theorem Push1.drew (w : World) (o : Obj) : Push1 w (w.drew.alloc o) o := ⟨(Push1.alloc w.drew o).size, (Push1.alloc w.drew o).last, (Push1.alloc w.drew o).rest, rfl, rfl, rfl⟩
theorem Set1.row {w : World} {b : Nat} {old cs : Array Value} {t : TypeId} (h : w.heap[b]? = some (.cells old t (0, 0))) : Set1 w (w.setRow b cs) b (.cells cs t (0, 0)) :=
  ⟨by simp, setRow_heap w b old cs t (0, 0) h, fun k hk => setRow_other w b k cs hk, rfl, rfl, rfl⟩
theorem Set1.obj {w : World} {b : Nat} (o : Obj) (h : b < w.heap.size) : Set1 w { w with heap := w.heap.setIfInBounds b o } b o :=
  ⟨by simp, by simp [h], fun k hk => by simp [Array.getElem?_setIfInBounds, Ne.symm hk], rfl, rfl, rfl⟩
def upd (r : Rn) (k : Nat) (p : Nat × Nat) : Rn := fun i => if i = k then some p else r i
theorem upd_self (r : Rn) (k : Nat) (p : Nat × Nat) : upd r k p k = some p := if_pos rfl
theorem upd_ne {r : Rn} {k i : Nat} {p : Nat × Nat} (h : i ≠ k) : upd r k p i = r i := if_neg h
theorem new_some {s s' : St} {o : AO} {k : Nat} (h : s.new o = some (k, s')) : s.next < big ∧ k = s.next ∧ s' = { s with T := s.T.set 24 s.next (some o), next := s.next + 1 } := by
  unfold St.new at h
  cases hb : Nat.blt s.next big with
  | false => rw [hb] at h; cases h
  | true =>
    rw [hb] at h
    injection h with h
    injection h with h1 h2
    exact ⟨by simpa [Nat.blt, Nat.lt_iff_add_one_le] using hb, h1.symm, h2.symm⟩
theorem put_some {s s' : St} {k : Nat} {o : Option AO} (h : s.put k o = some s') : wrt s k ∧ k < s.next ∧ s' = { s with T := s.T.set 24 k o } := by
  unfold St.put at h
  cases hb : ((Nat.ble s.lim k || Nat.beq k s.one) && Nat.blt k s.next) with
  | false => rw [hb] at h; cases h
  | true =>
    rw [hb] at h
    injection h with h
    simp only [Bool.and_eq_true, Bool.or_eq_true, Nat.ble_eq] at hb
    refine ⟨?_, by have := hb.2; simp [Nat.blt] at this; omega, h.symm⟩
    rcases hb.1 with h1 | h1
    · exact .inl h1
    · exact .inr (Nat.eq_of_beq_eq_true h1)
theorem getT (s : St) (k : Nat) : s.get k = if hidden s.hid k = true then none else s.T.get k := by unfold St.get; cases hidden s.hid k <;> rfl
section
variable {P : Program} {B : Nat} {r : Rn} {s s' : St} {w w' : World}
theorem _root_.Go.Proofs.YtdeghcgakkhbmaaGreat.Rel.fresh (h : Rel P B r s w) {o : AO} {k : Nat} (hn : s.new o = some (k, s')) (hB : s'.next ≤ B) : r k = none := by
  obtain ⟨_, rfl, rfl⟩ := new_some hn
  exact h.dom s.next (Nat.le_refl _) hB
/-- Something new. -/
theorem new_ok (h : Rel P B r s w) (hB : s'.next ≤ B) {o : AO} {k : Nat} (hn : s.new o = some (k, s')) {o' : Obj} (hp : Push1 w w' o') {x : Nat} (ho : OR P (upd r k (w.heap.size, x)) x o o') : Good P B s s' r (upd r k (w.heap.size, x)) w w' := by
  obtain ⟨h1, rfl, rfl⟩ := new_some hn
  have hB : s.next + 1 ≤ B := hB
  have hk : s.next + 2 ≤ 2 ^ 24 := by unfold big at h1; omega
  have hfr : r s.next = none := h.dom s.next (Nat.le_refl _) (by omega)
  have hT : ∀ i, (s.T.set 24 s.next (some o)).get i = if i = s.next then some o else s.T.get i := fun i => Tr.get_set 24 s.T s.next (some o) i hk
  have hnh : hidden s.hid s.next = false := by
    cases e : hidden s.hid s.next with
    | false => rfl
    | true => exact absurd (h.hlt _ e) (by omega)
  have hup : ∀ i p, r i = some p → upd r s.next (w.heap.size, x) i = some p := fun i p hi => by rw [upd_ne (by rintro rfl; rw [hfr] at hi; cases hi)]; exact hi
  have hg : ∀ i, ({ s with T := s.T.set 24 s.next (some o), next := s.next + 1 } : St).get i = if i = s.next then some o else s.get i := fun i => by
    rw [getT, getT]
    show (if hidden s.hid i = true then none else (s.T.set 24 s.next (some o)).get i) = _
    rw [hT]
    by_cases e : i = s.next
    · subst e; rw [if_pos rfl, if_pos rfl, hnh]; rfl
    · rw [if_neg e, if_neg e]
  have hold : ∀ i b y, s.get i ≠ none → r i = some (b, y) → b < w.heap.size := fun i b y hi hr => by
    cases e : s.get i with
    | none => exact absurd e hi
    | some oo =>
      obtain ⟨b', y', o2, a1, a2, _⟩ := h.obj i oo e
      rw [hr] at a1; injection a1 with a1; injection a1 with a1 _; subst a1
      exact (Array.getElem?_eq_some_iff.1 a2).1
  refine ⟨⟨Nat.le_succ _, rfl, rfl, rfl, fun i hi _ => ?_, fun i hi hd => ?_, fun _ i hi => ?_, rfl⟩, ⟨fun i hi => upd_ne (by rcases hi with hi | hi; omega; have hi : s.next + 1 ≤ i := hi; omega), by rw [hp.size]; omega, hp.os, hp.tape, hp.output, fun b hb _ => hp.rest b hb, fun i b y hi hgi hr => ?_⟩, ⟨h1, hB, fun i hi hiB => ?_, fun i oo hi => ?_, fun i j b y y' hi hj ri rj => ?_, fun i hi => ?_, fun i hi => ?_, fun g hg => hup _ _ (h.gl g hg), Nat.le_succ_of_le h.gn⟩⟩
  · show (s.T.set 24 s.next (some o)).get i = _
    rw [hT, if_neg (by omega)]
  · show (s.T.set 24 s.next (some o)).get i = _
    rw [hT, if_neg (by omega)]; exact hd
  · have hi : s.next + 1 ≤ i := hi
    show (s.T.set 24 s.next (some o)).get i = none
    rw [hT, if_neg (by omega)]; exact h.up i (by omega)
  · rw [hg] at hgi
    by_cases e : i = s.next
    · subst e; rw [upd_self] at hr; injection hr with hr; injection hr with hr _; left; omega
    · rw [if_neg e] at hgi; exact absurd (h.lt hgi) (by omega)
  · have hi : s.next + 1 ≤ i := hi
    rw [upd_ne (by omega)]; exact h.dom i (by omega) hiB
  · rw [hg] at hi
    by_cases e : i = s.next
    · subst e; rw [if_pos rfl] at hi; injection hi with hi; subst hi
      exact ⟨_, _, _, upd_self _ _ _, hp.last, ho⟩
    · rw [if_neg e] at hi
      obtain ⟨b, y, o2, a1, a2, a3⟩ := h.obj i oo hi
      exact ⟨b, y, o2, hup _ _ a1, (hp.rest b (hold i b y (by rw [hi]; simp) a1)).trans a2, a3.mono hup⟩
  · rw [hg] at hi hj
    by_cases e : i = s.next
    · subst e
      rw [upd_self] at ri; injection ri with ri; injection ri with ri _; subst ri
      by_cases e' : j = s.next
      · exact e'.symm
      · rw [if_neg e'] at hj; rw [upd_ne e'] at rj; exact absurd (hold j _ _ hj rj) (by omega)
    · rw [if_neg e] at hi; rw [upd_ne e] at ri
      by_cases e' : j = s.next
      · subst e'; rw [upd_self] at rj; injection rj with rj; injection rj with rj _; subst rj
        exact absurd (hold i _ _ hi ri) (by omega)
      · rw [if_neg e'] at hj; rw [upd_ne e'] at rj; exact h.inj i j b y y' hi hj ri rj
  · show (s.T.set 24 s.next (some o)).get i = none
    rw [hT, if_neg (by have : s.next + 1 ≤ i := hi; omega)]
    exact h.up i (by have : s.next + 1 ≤ i := hi; omega)
  · have := h.hlt i hi; show i < s.next + 1; omega
/-- A block is written. -/
theorem put_ok (h : Rel P B r s w) {k b x : Nat} {o1 o2 : AO} (hn : s.put k (some o2) = some s') (hv : s.get k = some o1) (hr : r k = some (b, x)) {o' : Obj} (hp : Set1 w w' b o') (ho : OR P r x o2 o') : Good P B s s' r r w w' := by
  obtain ⟨h1, h2, rfl⟩ := put_some hn
  have hk : k + 2 ≤ 2 ^ 24 := by have hb9 := h.nb; unfold big at hb9; omega
  have hT : ∀ i, (s.T.set 24 k (some o2)).get i = if i = k then some o2 else s.T.get i := fun i => Tr.get_set 24 s.T k (some o2) i hk
  have hnh : hidden s.hid k = false := by
    cases e : hidden s.hid k with
    | false => rfl
    | true => rw [getT, e] at hv; cases hv
  have hg : ∀ i, ({ s with T := s.T.set 24 k (some o2) } : St).get i = if i = k then some o2 else s.get i := fun i => by
    rw [getT, getT]
    show (if hidden s.hid i = true then none else (s.T.set 24 k (some o2)).get i) = _
    rw [hT]
    by_cases e : i = k
    · subst e; rw [if_pos rfl, if_pos rfl, hnh]; rfl
    · rw [if_neg e, if_neg e]
  have hne : s.get k ≠ none := by rw [hv]; simp
  refine ⟨⟨Nat.le_refl _, rfl, rfl, rfl, fun i hi hw => ?_, fun i hi hd => ?_, fun _ i hi => ?_, rfl⟩, ⟨fun i hi => rfl, by rw [hp.size]; exact Nat.le_refl _, hp.os, hp.tape, hp.output, fun bb hb hno => hp.rest bb ?_, fun i bb y hi hgi _ => ?_⟩, ⟨h.nb, h.le, h.dom, fun i oo hi => ?_, fun i j bb y y' hi hj ri rj => ?_, fun i hi => ?_, h.hlt, h.gl, h.gn⟩⟩
  · show (s.T.set 24 k (some o2)).get i = _
    rw [hT, if_neg ?_]
    rintro rfl
    rcases hw with hw | hw
    · exact hw h1
    · rw [hnh] at hw; cases hw
  · show (s.T.set 24 k (some o2)).get i = _
    rw [hT, if_neg ?_]
    · exact hd
    · rintro rfl
      rw [getT, hnh, if_neg (by simp)] at hv
      rw [hd] at hv; cases hv
  · have hi' : s.next ≤ i := hi
    show (s.T.set 24 k (some o2)).get i = none
    rw [hT, if_neg (by omega)]; exact h.up i hi'
  · rintro rfl; exact hno k x h2 h1 hne hr
  · rw [hg] at hgi
    have hi' : s.next ≤ i := hi
    rw [if_neg (by omega)] at hgi
    exact absurd (h.lt hgi) (by omega)
  · rw [hg] at hi
    by_cases e : i = k
    · subst e; rw [if_pos rfl] at hi; injection hi with hi; subst hi
      exact ⟨b, x, o', hr, hp.at_, ho⟩
    · rw [if_neg e] at hi
      obtain ⟨b', y, o3, a1, a2, a3⟩ := h.obj i oo hi
      refine ⟨b', y, o3, a1, (hp.rest b' ?_).trans a2, a3⟩
      rintro rfl
      exact e (h.inj i k b' y x (by rw [hi]; simp) hne a1 hr)
  · rw [hg] at hi hj
    have f : ∀ i, (if i = k then some o2 else s.get i) ≠ none → s.get i ≠ none := fun i hi => by
      by_cases e : i = k
      · subst e; exact hne
      · rwa [if_neg e] at hi
    exact h.inj i j bb y y' (f i hi) (f j hj) ri rj
  · show (s.T.set 24 k (some o2)).get i = none
    have hi' : s.next ≤ i := hi
    rw [hT, if_neg (by omega)]; exact h.up i hi'
/-- A block is let go, and is another's from here on, as it was written just now. -/
theorem move_ok {s1 : St} (h : Rel P B r s w) (hB : s'.next ≤ B) {k b x k2 x2 : Nat} {o1 o2 : AO} (hd : s.put k none = some s1) (hn : s1.new o2 = some (k2, s')) (hv : s.get k = some o1) (hr : r k = some (b, x)) {o' : Obj} (hp : Set1 w w' b o') (ho : OR P (upd r k2 (b, x2)) x2 o2 o') :
    Good P B s s' r (upd r k2 (b, x2)) w w' := by
  obtain ⟨h1, h2, rfl⟩ := put_some hd
  obtain ⟨h3, e3, es⟩ := new_some hn
  have e3 : k2 = s.next := e3
  subst e3
  have sT : s'.T = (s.T.set 24 k none).set 24 s.next (some o2) := by rw [es]
  have sn : s'.next = s.next + 1 := by rw [es]
  have sl : s'.lim = s.lim := by rw [es]
  have so : s'.one = s.one := by rw [es]
  have sh : s'.hid = s.hid := by rw [es]
  have sng : s'.ng = s.ng := by rw [es]
  clear es hn hd
  have hfr : r s.next = none := h.dom s.next (Nat.le_refl _) (by omega)
  have hk : k + 2 ≤ 2 ^ 24 := by have hb9 := h.nb; unfold big at hb9; omega
  have hk2 : s.next + 2 ≤ 2 ^ 24 := by have hb9 := h.nb; unfold big at hb9; omega
  have hT : ∀ i, ((s.T.set 24 k none).set 24 s.next (some o2)).get i = if i = s.next then some o2 else if i = k then none else s.T.get i := fun i => by
    rw [Tr.get_set 24 _ s.next (some o2) i hk2, Tr.get_set 24 s.T k none i hk]
  have hnh : hidden s.hid k = false := by
    cases e : hidden s.hid k with
    | false => rfl
    | true => rw [getT, e] at hv; cases hv
  have hnh2 : hidden s.hid s.next = false := by
    cases e : hidden s.hid s.next with
    | false => rfl
    | true => exact absurd (h.hlt _ e) (by omega)
  have hup : ∀ i p, r i = some p → upd r s.next (b, x2) i = some p := fun i p hi => by rw [upd_ne (by rintro rfl; rw [hfr] at hi; cases hi)]; exact hi
  have hg : ∀ i, s'.get i = if i = s.next then some o2 else if i = k then none else s.get i := fun i => by
    rw [getT, getT, sh, sT, hT]
    by_cases e : i = s.next
    · subst e; rw [if_pos rfl, if_pos rfl, hnh2]; rfl
    · rw [if_neg e, if_neg e]
      by_cases e' : i = k
      · subst e'; rw [if_pos rfl, if_pos rfl]; split <;> rfl
      · rw [if_neg e', if_neg e']
  have hne : s.get k ≠ none := by rw [hv]; simp
  refine ⟨⟨by omega, sl, so, sh, fun i hi hw => ?_, fun i hi hdd => ?_, fun _ i hi => ?_, sng⟩, ⟨fun i hi => upd_ne (by omega), by rw [hp.size]; exact Nat.le_refl _, hp.os, hp.tape, hp.output, fun bb hb hno => hp.rest bb ?_, fun i bb y hi hgi hri => ?_⟩, ⟨by rw [sn]; exact h3, hB, fun i hi hiB => ?_, fun i oo hi => ?_, fun i j bb y y' hi hj ri rj => ?_, fun i hi => ?_, fun i hi => ?_, fun g hg => hup _ _ (h.gl g (sng ▸ hg)), sng ▸ sn ▸ Nat.le_succ_of_le h.gn⟩⟩
  · rw [sT, hT, if_neg (by omega), if_neg ?_]
    rintro rfl
    rcases hw with hw | hw
    · exact hw h1
    · rw [hnh] at hw; cases hw
  · rw [sT, hT, if_neg (by omega)]
    split
    · rfl
    · exact hdd
  · rw [sT, hT, if_neg (by omega), if_neg (by omega)]; exact h.up i (by omega)
  · rintro rfl; exact hno k x h2 h1 hne hr
  · rw [hg] at hgi
    by_cases e : i = s.next
    · subst e; rw [upd_self] at hri; injection hri with hri; injection hri with hri _; subst hri
      exact .inr ⟨k, x, h2, h1, hne, hr⟩
    · rw [if_neg e] at hgi
      split at hgi
      · exact absurd rfl hgi
      · exact absurd (h.lt hgi) (by omega)
  · rw [upd_ne (by omega)]; exact h.dom i (by omega) hiB
  · rw [hg] at hi
    by_cases e : i = s.next
    · subst e; rw [if_pos rfl] at hi; injection hi with hi; subst hi
      exact ⟨b, x2, o', upd_self _ _ _, hp.at_, ho⟩
    · rw [if_neg e] at hi
      by_cases e' : i = k
      · rw [if_pos e'] at hi; cases hi
      · rw [if_neg e'] at hi
        obtain ⟨b', y, o3, a1, a2, a3⟩ := h.obj i oo hi
        refine ⟨b', y, o3, hup _ _ a1, (hp.rest b' ?_).trans a2, a3.mono hup⟩
        rintro rfl
        exact e' (h.inj i k b' y x (by rw [hi]; simp) hne a1 hr)
  · rw [hg] at hi hj
    by_cases e : i = s.next
    · subst e
      rw [upd_self] at ri; injection ri with ri; injection ri with ri _; subst ri
      by_cases e' : j = s.next
      · exact e'.symm
      · rw [if_neg e'] at hj
        rw [upd_ne e'] at rj
        by_cases e2 : j = k
        · rw [if_pos e2] at hj; exact absurd rfl hj
        · rw [if_neg e2] at hj; exact absurd (h.inj j k b y' x hj hne rj hr) e2
    · rw [if_neg e] at hi; rw [upd_ne e] at ri
      have hi2 : i ≠ k ∧ s.get i ≠ none := by
        by_cases e2 : i = k
        · rw [if_pos e2] at hi; exact absurd rfl hi
        · rw [if_neg e2] at hi; exact ⟨e2, hi⟩
      by_cases e' : j = s.next
      · subst e'; rw [upd_self] at rj; injection rj with rj; injection rj with rj _; subst rj
        exact absurd (h.inj i k b y x hi2.2 hne ri hr) hi2.1
      · rw [if_neg e'] at hj; rw [upd_ne e'] at rj
        have hj2 : s.get j ≠ none := by
          by_cases e2 : j = k
          · rw [if_pos e2] at hj; exact absurd rfl hj
          · rw [if_neg e2] at hj; exact hj
        exact h.inj i j bb y y' hi2.2 hj2 ri rj
  · rw [sT, hT, if_neg (by omega), if_neg (by omega)]; exact h.up i (by omega)
  · rw [sh] at hi; have := h.hlt i hi; omega
/-- A block is let go. -/
theorem drop_ok (h : Rel P B r s w) {k b x : Nat} {o1 : AO} (hd : s.put k none = some s') (hv : s.get k = some o1) : Good P B s s' r r w w := by
  obtain ⟨h1, h2, rfl⟩ := put_some hd
  have hk : k + 2 ≤ 2 ^ 24 := by have hb9 := h.nb; unfold big at hb9; omega
  have hT : ∀ i, (s.T.set 24 k none).get i = if i = k then none else s.T.get i := fun i => Tr.get_set 24 s.T k none i hk
  have hnh : hidden s.hid k = false := by
    cases e : hidden s.hid k with
    | false => rfl
    | true => rw [getT, e] at hv; cases hv
  have hg : ∀ i, ({ s with T := s.T.set 24 k none } : St).get i ≠ none → s.get i ≠ none ∧ ({ s with T := s.T.set 24 k none } : St).get i = s.get i := fun i => by
    rw [getT, getT]
    show (if hidden s.hid i = true then none else (s.T.set 24 k none).get i) ≠ none → _ ∧ (if hidden s.hid i = true then none else (s.T.set 24 k none).get i) = _
    rw [hT]
    intro hh
    split at hh
    · exact absurd rfl hh
    · rename_i e1
      rw [if_neg e1, if_neg e1]
      split at hh
      · exact absurd rfl hh
      · rename_i e2
        rw [if_neg e2]; exact ⟨hh, rfl⟩
  refine ⟨⟨Nat.le_refl _, rfl, rfl, rfl, fun i hi hw => ?_, fun i hi hdd => ?_, fun _ i hi => ?_, rfl⟩, ⟨fun i hi => rfl, Nat.le_refl _, rfl, rfl, rfl, fun _ _ _ => rfl, fun i bb y hi hgi _ => ?_⟩, ⟨h.nb, h.le, h.dom, fun i oo hi => ?_, fun i j bb y y' hi hj ri rj => ?_, fun i hi => ?_, h.hlt, h.gl, h.gn⟩⟩
  · show (s.T.set 24 k none).get i = _
    rw [hT, if_neg ?_]
    rintro rfl
    rcases hw with hw | hw
    · exact hw h1
    · rw [hnh] at hw; cases hw
  · show (s.T.set 24 k none).get i = _
    rw [hT]; split
    · rfl
    · exact hdd
  · have hi' : s.next ≤ i := hi
    show (s.T.set 24 k none).get i = none
    rw [hT]; split
    · rfl
    · exact h.up i hi'
  · exact absurd (h.lt (hg i hgi).1) (by have hi' : s.next ≤ i := hi; omega)
  · rw [(hg i (by rw [hi]; simp)).2] at hi
    exact h.obj i oo hi
  · exact h.inj i j bb y y' (hg i hi).1 (hg j hj).1 ri rj
  · show (s.T.set 24 k none).get i = none
    have hi' : s.next ≤ i := hi
    rw [hT]; split
    · rfl
    · exact h.up i hi'
end
end Go.Proofs.YtdeghcgakkhbmaaGreat
namespace Go.Proofs.YtdeghcgakkhbmaaGreat
open Go.RowKit
section
variable {P : Program} {B : Nat} {r : Rn} {s s' : St} {w : World}
theorem rd_ok (h : Rel P B r s w) {k off n b x : Nat} {l : List Value} (hl : rd s k off n = some l) (hr : r k = some (b, x)) : l.length = n ∧ ∃ l', LR r l l' ∧ (∀ j v, l'[j]? = some v → w.cell? ((⟨b, off, none⟩ : Addr).add j) = some v) ∧ ∀ v ∈ l', v.oneCell' = true := by
  unfold rd at hl
  split at hl
  · rename_i cs t op hg
    obtain ⟨b', x', o', e1, e2, a, rfl, e3, e4⟩ := h.obj k _ hg
    rw [hr] at e1; injection e1 with e1; injection e1 with e1 e1'; subst e1; subst e1'
    cases hb : Nat.ble (Nat.add off n) cs.length with
    | false => rw [hb] at hl; cases hl
    | true =>
      rw [hb] at hl
      injection hl with hl
      rw [takeN_eq, dropN_eq] at hl
      have hle : off + n ≤ cs.length := by simpa using hb
      have hlen : l.length = n := by rw [← hl]; simp; omega
      have hsz : cs.length ≤ a.size := by rw [e3]; omega
      have hget : ∀ j, j < n → ∃ v v', l[j]? = some v ∧ a[off + j]? = some v' ∧ VR r v v' ∧ v.oneCell' = true := fun j hj => by
        have hj' : off + j < cs.length := by omega
        have e5 : cs[off + j]? = some cs[off + j] := by simp [hj']
        obtain ⟨v', a1, a2, a3⟩ := e4 _ _ e5
        refine ⟨cs[off + j], v', ?_, a1, a2, a3⟩
        rw [← hl, List.getElem?_take, if_pos hj, List.getElem?_drop, e5]
      refine ⟨hlen, (a.toList.drop off).take n, ⟨by rw [hlen]; simp; omega, fun i v v' h1 h2 => ?_⟩, fun j v hv => ?_, fun v hv => ?_⟩
      · have hi : i < n := by rw [← hlen]; exact (List.getElem?_eq_some_iff.1 h1).1
        obtain ⟨u, u', g1, g2, g3, _⟩ := hget i hi
        rw [List.getElem?_take, if_pos hi, List.getElem?_drop] at h2
        rw [g1] at h1; injection h1 with h1; subst h1
        have : a[off + i]? = some v' := by simpa using h2
        rw [g2] at this; injection this with this; subst this
        exact g3
      · rw [addr_add, cell_of_row w b (off + j) a t (0, 0) e2]
        rw [List.getElem?_take] at hv
        split at hv
        · rw [List.getElem?_drop] at hv; simpa using hv
        · cases hv
      · obtain ⟨j, hj⟩ := List.mem_iff_getElem?.1 hv
        have hjn : j < n := by
          rw [List.getElem?_take] at hj
          split at hj
          · assumption
          · cases hj
        obtain ⟨u, u', g1, g2, g3, g4⟩ := hget j hjn
        rw [List.getElem?_take, if_pos hjn, List.getElem?_drop] at hj
        have : a[off + j]? = some v := by simpa using hj
        rw [g2] at this; injection this with this; subst this
        rw [g3.one]; exact g4
  · cases hl
theorem splice_get {α : Type} (a vs : List α) (off i : Nat) (h : off + vs.length ≤ a.length) : (a.take off ++ (vs ++ a.drop (off + vs.length)))[i]? = if i < off then a[i]? else if i < off + vs.length then vs[i - off]? else a[i]? := by
  rw [List.getElem?_append]
  have h1 : (a.take off).length = off := by simp; omega
  rw [h1]
  split
  · rename_i h2; rw [List.getElem?_take, if_pos h2]
  · rw [List.getElem?_append]
    split
    · rename_i h2 h3; rw [if_pos (by omega)]
    · rename_i h2 h3
      rw [if_neg (by omega), List.getElem?_drop]
      congr 1; omega
theorem wr_ok (h : Rel P B r s w) {k off b x : Nat} {vs vs' : List Value} (hl : wr s k off vs = some s') (hr : r k = some (b, x)) (hv : LR r vs vs') :
    ∃ cur t, w.heap[b]? = some (.cells cur t (0, 0)) ∧ off + vs'.length ≤ cur.size ∧ (∀ v ∈ vs', v.oneCell' = true) ∧ (∃ cs op, s.get k = some (.cells cs t op) ∧ cs.length ≤ cur.size) ∧ Good P B s s' r r w (w.setRow b (cur.toList.take off ++ vs' ++ cur.toList.drop (off + vs'.length)).toArray) := by
  unfold wr at hl
  split at hl
  · rename_i cs t op hg
    obtain ⟨b', x', o', e1, e2, a, rfl, e3, e4⟩ := h.obj k _ hg
    rw [hr] at e1; injection e1 with e1; injection e1 with e1 e1'; subst e1; subst e1'
    cases hb : (Nat.ble (Nat.add off vs.length) cs.length && ones vs) with
    | false => rw [hb] at hl; cases hl
    | true =>
      rw [hb] at hl
      simp only [cond_true] at hl
      simp only [Bool.and_eq_true] at hb
      have hle : off + vs.length ≤ cs.length := by simpa using hb.1
      have hvl := hv.1
      have hsz : cs.length ≤ a.size := by rw [e3]; omega
      have h1 := hv.oneAll hb.2
      refine ⟨a, t, e2, by omega, h1, ⟨cs, op, hg, hsz⟩, put_ok h hl hg hr (Set1.row e2) ⟨_, rfl, ?_, fun i v hiv => ?_⟩⟩
      · simp only [takeN_eq, dropN_eq]
        simp
        omega
      · rw [takeN_eq, dropN_eq] at hiv
        have hiv : (cs.take off ++ (vs ++ cs.drop (off + vs.length)))[i]? = some v := hiv
        rw [splice_get cs vs off i hle] at hiv
        have e5 : (a.toList.take off ++ vs' ++ a.toList.drop (off + vs'.length)).toArray[i]? = if i < off then a.toList[i]? else if i < off + vs'.length then vs'[i - off]? else a.toList[i]? := by
          have := splice_get a.toList vs' off i (by simp; omega)
          rw [← List.append_assoc] at this
          simpa using this
        rw [e5]
        split at hiv
        · rename_i hi
          rw [if_pos hi]
          obtain ⟨v', g1, g2, g3⟩ := e4 i v hiv
          exact ⟨v', by simpa using g1, g2, g3⟩
        · rename_i hi
          rw [if_neg hi]
          split at hiv
          · rename_i hi2
            rw [if_pos (by omega)]
            obtain ⟨v', g1, g2⟩ := hv.get hiv
            exact ⟨v', g1, g2, ones_mem hb.2 v (List.mem_of_getElem? hiv)⟩
          · rename_i hi2
            rw [if_neg (by omega)]
            obtain ⟨v', g1, g2, g3⟩ := e4 i v hiv
            exact ⟨v', by simpa using g1, g2, g3⟩
  · cases hl
theorem ld_ok (h : Rel P B r s w) {t : TypeId} {k off b x : Nat} {v : Value} (hl : ld P s t k off = some v) (hr : r k = some (b, x)) : ∃ v', VR r v v' ∧ (loadVar t ⟨b, off, none⟩).run P w = .ok v' w := by
  unfold ld at hl
  split at hl
  · rename_i n ha hs
    simp only [Option.map_eq_some_iff] at hl
    obtain ⟨l, hl, rfl⟩ := hl
    obtain ⟨h1, l', h2, h3, _⟩ := rd_ok h hl hr
    refine ⟨.agg l'.toArray, .ag h2.arr.1 h2.arr.2, ?_⟩
    have := run_loadCells_list (P := P) w ⟨b, off, none⟩ l' h3
    rw [← h2.1, h1] at this
    simp [loadVar, aggB_true ha, szB_run hs, this]
  · rename_i n ha hs
    split at hl
    · rename_i u q hq
      injection hl with hl; subst hl
      obtain ⟨h1, l', h2, h3, _⟩ := rd_ok h hq hr
      obtain ⟨v', q', rfl, g1, g2⟩ := h2.uncons
      have := h3 0 v' rfl
      rw [addr_add, Nat.add_zero] at this
      exact ⟨v', g1, by simp [loadVar, aggB_false ha, this]⟩
    · cases hl
  · cases hl
/-- what comes of an operation -/
def Upon (P : Program) (K : Value → World → Prop) : Result Go.Next → Prop
  | .ok (.value v) w => K v w
  | .ok .skip w => K undef w
  | .ok (.enter f args) w => ∀ n, CallsIn Fence.wide n P f args w fun e w' => ∃ v, e = .returned v ∧ K v w'
  | .ok (.round l f tmps asg body) w => ∀ n, RoundIn Fence.wide n P l f tmps asg body w fun e w' => ∃ v, e = .returned v ∧ K v w'
  | _ => False
def Res (P : Program) (B : Nat) (s s' : St) (r : Rn) (w : World) (v : Value) (v' : Value) (w' : World) : Prop := ∃ r', VR r' v v' ∧ Good P B s s' r r' w w'
theorem cells_or {cs cs' : List Value} {x : Nat} {t : TypeId} {r : Rn} (h : LR r cs cs') (h1 : ones cs = true) : OR P r x (.cells cs t false) (.cells cs'.toArray t (0, 0)) :=
  ⟨cs'.toArray, rfl, by simp [h.1], fun i v hv => let ⟨v', g1, g2⟩ := h.get hv; ⟨v', by simpa using g1, g2, ones_mem h1 v (List.mem_of_getElem? hv)⟩⟩
theorem newC_ok (h : Rel P B r s w) (hB : s'.next ≤ B) {cs cs' : List Value} {t : TypeId} {v : Value} (hn : newC s cs t = some (v, s')) (hc : LR r cs cs') : Res P B s s' r w v (.pointer (some ⟨w.heap.size, 0, none⟩)) (w.alloc (.cells cs'.toArray t)) := by
  unfold newC at hn
  cases h1 : ones cs with
  | false => rw [h1] at hn; cases hn
  | true =>
    rw [h1] at hn
    simp only [cond_true, Option.map_eq_some_iff] at hn
    obtain ⟨⟨k, s2⟩, hn, e⟩ := hn
    injection e with e1 e2
    have e2 : s2 = s' := e2
    subst e2; subst e1
    obtain ⟨_, hk, _⟩ := new_some hn
    have hup : ∀ i p, r i = some p → upd r k (w.heap.size, 0) i = some p := fun i p hi => by rw [upd_ne (by rintro rfl; rw [h.fresh hn hB] at hi; cases hi)]; exact hi
    exact ⟨_, .ptr (upd_self _ _ _), new_ok h hB hn (x := 0) (Push1.alloc w _) (cells_or (hc.mono hup) h1)⟩
theorem reps_mod (l : List Value) : ∀ (n i : Nat), i < n * l.length → (reps n l)[i]? = l[i % l.length]?
  | 0, i, h => by simp at h
  | n + 1, i, h => by
    simp only [reps]
    rw [List.getElem?_append]
    split
    · rename_i hi; rw [Nat.mod_eq_of_lt hi]
    · rename_i hi
      have hl : l.length ≤ i := by omega
      rw [reps_mod l n (i - l.length) (by rw [Nat.succ_mul] at h; omega)]
      congr 1
      rw [Nat.mod_eq_sub_mod hl]
theorem reps_len (l : List Value) : ∀ n, (reps n l).length = n * l.length
  | 0 => by simp [reps]
  | n + 1 => by simp only [reps, List.length_append, reps_len l n]; rw [Nat.succ_mul]; omega
theorem made_reps (z : Array Value) (n : Nat) : madeCells z (n * z.size) = (reps n z.toList).toArray := by
  apply Array.ext'
  apply List.ext_getElem?
  intro i
  by_cases hi : i < n * z.size
  · have hz : 0 < z.size := Nat.pos_of_ne_zero fun h => by rw [h] at hi; simp at hi
    have hm : i % z.size < z.size := Nat.mod_lt _ hz
    have := reps_mod z.toList n i (by simpa using hi)
    simp only [Array.length_toList] at this
    simp [madeCells, hi, this, hm]
  · have h1 : (reps n z.toList).length ≤ i := by rw [reps_len]; simp; omega
    simp [madeCells, hi, h1]
theorem reps_ones {l : List Value} (h : ones l = true) : ∀ n, ones (reps n l) = true
  | 0 => rfl
  | n + 1 => by
    have ap : ∀ (a b : List Value), ones a = true → ones b = true → ones (a ++ b) = true := by
      intro a b
      induction a with
      | nil => exact fun _ h => h
      | cons v a ih => intro h1 h2; simp only [List.cons_append, ones, Bool.and_eq_true] at h1 ⊢; exact ⟨h1.1, ih h1.2 h2⟩
    exact ap _ _ h (reps_ones h n)
theorem pls_app : ∀ (a b : List Value), pls a = true → pls b = true → pls (a ++ b) = true
  | [], b, _, h => h
  | v :: a, b, h1, h2 => by simp only [List.cons_append, pls, Bool.and_eq_true] at h1 ⊢; exact ⟨h1.1, pls_app a b h1.2 h2⟩
theorem reps_pls {l : List Value} (h : pls l = true) : ∀ n, pls (reps n l) = true
  | 0 => rfl
  | n + 1 => pls_app _ _ h (reps_pls h n)
theorem pl_cells {z : Value} (h : pl z = true) : pls z.cells.toList = true := by
  cases z <;> try (simp [Value.cells, pls, h]; done)
  rename_i c
  obtain ⟨c⟩ := c
  show pls c = true
  simpa [pl] using h
theorem blt_lt {a b : Nat} (h : Nat.blt a b = true) : a < b := by simp [Nat.blt] at h; omega
theorem nb {s s' : St} {f : Nat × St → Value × St} {q : Option (Nat × St)} {v : Value} (h : q.map f = some (v, s')) : ∃ k s1, q = some (k, s1) ∧ f (k, s1) = (v, s') := by
  simp only [Option.map_eq_some_iff] at h
  obtain ⟨⟨k, s1⟩, h1, h2⟩ := h
  exact ⟨k, s1, h1, h2⟩
theorem elemB_some {t e : TypeId} (h : elemB P t = some e) : P.underlying t = some (.slice e) := by
  unfold elemB at h
  split at h
  · rename_i u; injection h with h; subst h; exact u
  · cases h
theorem VR.mpv {r : Rn} {k b x : Nat} {v' : Value} (h : VR r (.map (some k)) v') (hr : r k = some (b, x)) : v' = .map (some b) := by
  cases h with
  | pln h => simp [pl] at h
  | mp h => rw [hr] at h; injection h with h; injection h with h _; subst h; rfl
theorem mfind_ok {r : Rn} {kd a : IntKind} {x : Int} : ∀ (es : List MapEntry) (es' : List MapEntry) (i : Nat) (q : Option Value), mfind (.int a x) es = some q → es'.length = es.length → (∀ (j : Nat) e, es[j]? = some e → ∃ e', es'[j]? = some e' ∧ e'.key = e.key ∧ VR r e.val e'.val) →
    (q = none → Instr.findNow (.int kd) (.int a x) es' i = some none) ∧ (∀ v, q = some v → ∃ j v', Instr.findNow (.int kd) (.int a x) es' i = some (some (j, v')) ∧ VR r v v')
  | [], es', i, q, h, hl, _ => by
    cases es' with
    | nil => simp [mfind] at h; subst h; exact ⟨fun _ => rfl, fun v hv => by cases hv⟩
    | cons e l => simp at hl
  | e :: es, es', i, q, h, hl, he => by
    cases es' with
    | nil => simp at hl
    | cons e' l =>
      obtain ⟨e2, g1, g2, g3⟩ := he 0 e rfl
      simp only [List.getElem?_cons_zero, Option.some.injEq] at g1
      subst g1
      have ih := mfind_ok (r := r) (kd := kd) (a := a) (x := x) es l (i + 1) q
      simp only [mfind] at h
      split at h
      · rename_i a2 x2 b2 y2 k1 k2
        injection k2 with k2 k3; subst k2; subst k3
        cases hd : decide (a2 = a) with
        | false => rw [hd] at h; cases h
        | true =>
          rw [hd] at h
          simp only [cond_true] at h
          have ha : a2 = a := by simpa using hd
          subst ha
          simp only [Instr.findNow, g2, k1, Instr.sameNow, if_true]
          cases hx : decide (x = x2) with
          | true =>
            rw [hx] at h
            injection h with h; subst h
            have hx : x = x2 := by simpa using hx
            subst hx
            simp only [beq_self_eq_true]
            exact ⟨fun h => (by cases h), fun v hv => (by injection hv with hv; subst hv; exact ⟨i, _, rfl, g3⟩)⟩
          | false =>
            rw [hx] at h
            have hx : ¬ x = x2 := by simpa using hx
            have : (x == x2) = false := by simpa using hx
            simp only [this]
            exact ih h (by simpa using hl) fun j e3 h3 => he (j + 1) e3 (by simpa using h3)
      · cases h
variable {ρ ρ' : Operand → Value} {o : Oper} {v : Value}
theorem fillP_ok {parts : Array (Nat × Operand)} {place : Nat → Option (Nat × Nat)} {c c' out : Array Value} (hp : ∀ p ∈ parts.toList, VR r (ρ p.2) (ρ' p.2)) (hc : AR r c c') (h : Instr.fill place c (parts.toList.map fun p => (p.1, ρ p.2)) = some out) :
    ∃ out', Instr.fill place c' (parts.toList.map fun p => (p.1, ρ' p.2)) = some out' ∧ AR r out out' :=
  fill_ok place _ _ c c' out (by simp) (fun i p p' e1 e2 => by
    simp only [List.getElem?_map, Option.map_eq_some_iff] at e1 e2
    obtain ⟨q, hq, rfl⟩ := e1
    obtain ⟨q', hq', rfl⟩ := e2
    rw [hq] at hq'; injection hq' with hq'; subst hq'
    exact hp q (List.mem_of_getElem? hq)) hc h
/-- The operations that look at memory, but calls. -/
theorem execH_ok {R : Rec} (h : Rel P B r s w) (hB : s'.next ≤ B) (he : execH P R ρ o s = some (v, s')) (hρ : ∀ x ∈ o.op.operands, VR r (ρ x) (ρ' x)) (hnc : ∀ c, o.op ≠ .call c) : Upon P (Res P B s s' r w v) ((execOp ρ' o).run P w) := by
  unfold execH at he
  split at he
  · rename_i e hop
    split at he
    · rename_i z hz
      obtain ⟨i, hi, hzz, hpz⟩ := zeroB_some hz
      have e1 : (execOp ρ' o).run P w = .ok (.value (.pointer (some ⟨w.heap.size, 0, none⟩))) (w.alloc (.cells z.cells e)) := by
        simp [execOp, hop, Instr.alloc, zeroValue, typeInfo, hi, hzz, newVar, newRow]
      rw [e1]
      exact newC_ok h hB he (cs' := z.cells.toList) (VR.pln hpz).cells
    · cases he
  · rename_i e x hop
    have e1 : (execOp ρ' o).run P w = .ok (.value (.pointer (some ⟨w.heap.size, 0, none⟩))) (w.alloc (.cells (ρ' x).cells e)) := by
      simp [execOp, hop, Instr.box, newVar, newRow]
    rw [e1]
    exact newC_ok h hB he (cs' := (ρ' x).cells.toList) (hρ x (by simp [hop, Op.operands])).cells
  · rename_i t len parts hop
    split at he
    · cases he
    · rename_i e hE
      have hu := elemB_some hE
      split at he
      · rename_i sz z hsz hz
        obtain ⟨i, hi, hzz, hpz⟩ := zeroB_some hz
        have hsi : i.size = sz := by unfold szB at hsz; rw [hi] at hsz; simpa using hsz
        cases hc : (Nat.beq sz 0 || Nat.blt 10000 (len * sz) || !(Nat.beq z.cells.size sz)) with
        | true => rw [hc] at he; cases he
        | false =>
          rw [hc] at he
          simp only [cond_false] at he
          simp only [Bool.or_eq_false_iff, Bool.not_eq_false'] at hc
          obtain ⟨⟨c1, c2⟩, c3⟩ := hc
          have c3 : z.cells.size = sz := Nat.eq_of_beq_eq_true c3
          have c1 : sz ≠ 0 := by rintro rfl; cases c1
          have c2 : len * sz ≤ 10000 := by
            rcases Nat.lt_or_ge 10000 (len * sz) with hh | hh
            · exfalso
              have : Nat.blt 10000 (len * sz) = true := by simp [Nat.blt]; omega
              rw [this] at c2; cases c2
            · exact hh
          split at he
          · cases he
          · rename_i cs hcs
            have hz0 : LR r (reps len z.cells.toList) (reps len z.cells.toList) := LR.plain (reps_pls (pl_cells hpz) len)
            obtain ⟨out', f1, f2⟩ := fillP_ok (r := r) (ρ' := ρ') (fun p hp => hρ p.2 (by simp only [hop, Op.operands, List.mem_toArray, List.mem_map]; exact ⟨p, hp, rfl⟩)) hz0.arr hcs
            cases h1 : ones cs.toList with
            | false => rw [h1] at he; cases he
            | true =>
              rw [h1] at he
              obtain ⟨k, s1, hn, e2⟩ := nb (s := s) he
              simp only [Prod.mk.injEq] at e2
              obtain ⟨e2, rfl⟩ := e2
              have hm : (Array.range (len * sz)).map (z.cells[· % z.cells.size]!) = (reps len z.cells.toList).toArray := by
                have := made_reps z.cells len
                rw [c3] at this
                unfold madeCells at this
                rw [← this, c3]
              have e1 : (execOp ρ' o).run P w = .ok (.value (.slice (some ⟨w.heap.size, 0, none⟩) len len)) (w.alloc (.cells out' e)) := by
                have hlim : ¬ (2 ^ 24 < len * sz) := by omega
                have hlim' : ¬ (16777216 < len * sz) := by omega
                by_cases h0 : len * sz = 0
                · have hl0 : len = 0 := by rcases Nat.mul_eq_zero.1 h0 with hh | hh; exact hh; exact absurd hh c1
                  subst hl0
                  have hr : (#[] : Array Value) = (reps 0 z.cells.toList).toArray := rfl
                  simp only [Nat.zero_mul] at hm
                  simp [execOp, hop, Instr.buildSlice, run_underlying hu, szB_run hsz, newRow]
                  simp only [reps] at f1
                  rw [show Array.map (fun _ : Nat => (default : Value)) (Array.range 0) = ([] : List Value).toArray from by simp [Array.range_zero'], f1]
                  simp
                · have hm' : Array.map (fun x => z.cells[x % sz]!) (Array.range (len * sz)) = (reps len z.cells.toList).toArray := by rw [← hm, c3]
                  simp [execOp, hop, Instr.buildSlice, run_underlying hu, szB_run hsz, newRow, hlim', h0, zeroValue, typeInfo, hi, hzz, c3, hm', f1]
              rw [e1, ← e2]
              obtain ⟨_, hk, _⟩ := new_some hn
              have hup : ∀ i p, r i = some p → upd r k (w.heap.size, 0) i = some p := fun i p hi => by rw [upd_ne (by rintro rfl; rw [h.fresh hn hB] at hi; cases hi)]; exact hi
              refine ⟨_, .sl (upd_self _ _ _), new_ok h hB hn (x := 0) (Push1.alloc w _) ?_⟩
              have := cells_or (P := P) (t := e) (x := 0) (f2.list.mono hup) h1
              simpa using this
      · cases he
  · rename_i t a hop
    split at he
    · rename_i k off hk
      simp only [Option.map_eq_some_iff, Prod.mk.injEq] at he
      obtain ⟨u, hl, rfl, rfl⟩ := he
      have ha := hρ a (by simp [hop, Op.operands])
      rw [hk] at ha
      obtain ⟨b, x, hr, e⟩ := ha.pt
      obtain ⟨v', g1, g2⟩ := ld_ok h hl hr
      have e1 : (execOp ρ' o).run P w = .ok (.value v') w := by simp [execOp, hop, e, Instr.loadAt, Instr.sureAddr, g2]
      rw [e1]
      exact ⟨r, g1, Good.refl h⟩
    · cases he
  · rename_i t a x hop
    split at he
    · rename_i k off n hk hsz
      cases hc : Nat.beq (ρ x).cells.size n with
      | false => rw [hc] at he; cases he
      | true =>
        rw [hc] at he
        simp only [cond_true, Option.map_eq_some_iff, Prod.mk.injEq] at he
        obtain ⟨s1, hl, rfl, rfl⟩ := he
        have hc := Nat.eq_of_beq_eq_true hc
        have ha := hρ a (by simp [hop, Op.operands])
        rw [hk] at ha
        obtain ⟨b, y, hr, e⟩ := ha.pt
        have hx := (hρ x (by simp [hop, Op.operands])).cells
        obtain ⟨cur, t', g1, g2, g3, _, g4⟩ := wr_ok h hl hr hx
        have hst := run_storeCells_at P b off t' (ρ' x).cells.toList 0 cur w g1 (by simpa using g2) g3
        have hn : (ρ' x).cells.size = n := by have := hx.1; simp at this; omega
        have e1 : (execOp ρ' o).run P w = .ok .skip (w.setRow b (cur.toList.take off ++ (ρ' x).cells.toList ++ cur.toList.drop (off + (ρ' x).cells.toList.length)).toArray) := by
          simp only [Nat.add_zero] at hst
          simp [execOp, hop, e, Instr.storeAt, Instr.sureAddr, storeVar, szB_run hsz, hn]
          rw [hst]
          simp [hn]
        rw [e1]
        exact ⟨r, VR.undef, g4⟩
    · cases he
  · rename_i t l c hop
    split at he
    · cases he
    · rename_i e hE
      have hu := elemB_some hE
      split at he
      · rename_i i z kl l' kc c' hi hz hl hc
        obtain ⟨i2, hi2, hzz, hpz⟩ := zeroB_some hz
        rw [hi] at hi2; injection hi2 with hi2; subst hi2
        cases hcc : (Nat.ble l' c' && Nat.ble (Nat.mul c' (Nat.add (Nat.add i.size i.bytes) 1)) 10000000 && Nat.beq z.cells.size i.size && ones z.cells.toList) with
        | false => rw [hcc] at he; cases he
        | true =>
          rw [hcc] at he
          simp only [cond_true] at he
          simp only [Bool.and_eq_true, Nat.ble_eq] at hcc
          obtain ⟨⟨⟨c1, c2⟩, c3⟩, c4⟩ := hcc
          have c3 := Nat.eq_of_beq_eq_true c3
          have c2 : c' * (i.size + i.bytes + 1) ≤ 10000000 := c2
          obtain ⟨k, s1, hn, e2⟩ := nb (s := s) he
          simp only [Prod.mk.injEq] at e2
          obtain ⟨e2, rfl⟩ := e2
          have hl' := hρ l (by simp [hop, Op.operands])
          have hc' := hρ c (by simp [hop, Op.operands])
          rw [hl] at hl'
          rw [hc] at hc'
          have hb : i.bytes * c' ≤ 10000000 := by
            have : c' * (i.size + i.bytes + 1) = c' * i.size + i.bytes * c' + c' := by rw [Nat.mul_add, Nat.mul_add, Nat.mul_comm c' i.bytes, Nat.mul_one]
            omega
          have hcb : c' ≤ 10000000 := by
            have : c' * (i.size + i.bytes + 1) = c' * i.size + i.bytes * c' + c' := by rw [Nat.mul_add, Nat.mul_add, Nat.mul_comm c' i.bytes, Nat.mul_one]
            omega
          have hmk := run_make (P := P) w t e i z hu hi hzz kl kc (l' : Int) (c' : Int) (by omega) (by omega) (by have : ((i.bytes * c' : Nat) : Int) ≤ 10000000 := (by omega); rw [Int.natCast_mul] at this; omega) (by omega)
          have e1 : (execOp ρ' o).run P w = .ok (.value (.slice (some ⟨w.heap.size, 0, none⟩) l' c')) (w.alloc (.cells (madeCells z.cells (c' * i.size)) e)) := by
            have q1 := hl'.int
            have q2 := hc'.int
            simp only [Int.ofNat_eq_natCast] at q1 q2
            simp only [execOp, hop, q1, q2]
            simp [hmk]
          rw [e1, ← e2]
          obtain ⟨_, hk, _⟩ := new_some hn
          refine ⟨_, .sl (upd_self _ _ _), new_ok h hB hn (x := 0) (Push1.alloc w _) ?_⟩
          have := cells_or (P := P) (t := e) (x := 0) (r := upd r k (w.heap.size, 0)) (LR.plain (reps_pls (pl_cells hpz) c')) (reps_ones c4 c')
          rw [← made_reps, c3] at this
          exact this
      · cases he
  · rename_i t hop
    obtain ⟨k, s1, hn, e2⟩ := nb (s := s) he
    simp only [Prod.mk.injEq] at e2
    obtain ⟨rfl, rfl⟩ := e2
    have e1 : (execOp ρ' o).run P w = .ok (.value (.map (some w.heap.size))) (w.alloc (.map #[] 0)) := by
      simp [execOp, hop, Instr.makeMap]
    rw [e1]
    exact ⟨_, .mp (upd_self _ _ _), new_ok h hB hn (x := 0) (Push1.alloc w _) ⟨#[], rfl, rfl, fun i e hi => by simp at hi⟩⟩
  · rename_i t m k y hop
    split at he
    · rename_i rr kt et hm hut
      split at he
      · rename_i kd a x es c hkt hk hg
        split at he
        · rename_i hf
          simp only [Option.map_eq_some_iff, Prod.mk.injEq] at he
          obtain ⟨s1, hl, rfl, rfl⟩ := he
          have hm' := hρ m (by simp [hop, Op.operands])
          have hk' := hρ k (by simp [hop, Op.operands])
          have hy' := hρ y (by simp [hop, Op.operands])
          rw [hm] at hm'
          rw [hk] at hk'
          obtain ⟨b, x0, o', hr, hw, es', rfl, g2, g3⟩ := h.obj _ _ hg
          have hmb : ρ' m = .map (some b) := hm'.mpv hr
          obtain ⟨f1, _⟩ := mfind_ok (r := r) (kd := kd) es es'.toList 0 none hf (by simpa using g2) (fun j e hj => by simpa using g3 j e hj)
          have hlt : b < w.heap.size := (Array.getElem?_eq_some_iff.1 hw).1
          have hck : (Instr.checkKey false 10000 kt (.int a x)).run P w = .ok () w := by
            show (Instr.checkKey false (9999 + 1) kt (.int a x)).run P w = _
            rw [Instr.checkKey]
            simp [run_underlying hkt]
          have e1 : (execOp ρ' o).run P w = .ok .skip { w with heap := w.heap.setIfInBounds b (.map (es'.push { key := .int a x, val := ρ' y, born := c }) (c + 1)) } := by
            simp [execOp, hop, hmb, hk'.int, Instr.mapUpdate, run_underlying hut, getObj, setObj, Sem.run, hw, hck, Instr.findKey, run_underlying hkt, f1 rfl]
          rw [e1]
          refine ⟨r, VR.undef, put_ok h hl hg hr (Set1.obj _ hlt) ⟨_, rfl, by simp [g2], fun i e hi => ?_⟩⟩
          rw [List.getElem?_append] at hi
          split at hi
          · rename_i hlt2
            obtain ⟨e', q1, q2, q3⟩ := g3 i e hi
            exact ⟨e', by rw [Array.getElem?_push, if_neg (by omega)]; exact q1, q2, q3⟩
          · rename_i hlt2
            have : i = es.length := by
              rcases Nat.lt_or_ge (i - es.length) 1 with hh | hh
              · omega
              · rw [List.getElem?_eq_none (by simpa using hh)] at hi; cases hi
            subst this
            simp at hi
            subst hi
            exact ⟨{ key := .int a x, val := ρ' y, born := c }, by rw [← g2]; simp, rfl, hy'⟩
        · cases he
      · cases he
    · cases he
  · rename_i t m k hop
    split at he
    · rename_i rr kt et hm hut
      split at he
      · rename_i kd a x es c hkt hk hg
        have hm' := hρ m (by simp [hop, Op.operands])
        have hk' := hρ k (by simp [hop, Op.operands])
        rw [hm] at hm'
        rw [hk] at hk'
        obtain ⟨b, x0, o', hr, hw, es', rfl, g2, g3⟩ := h.obj _ _ hg
        have hmb : ρ' m = .map (some b) := hm'.mpv hr
        have hck : ∀ em, (Instr.checkKey em 10000 kt (.int a x)).run P w = .ok () w := fun em => by
          show (Instr.checkKey em (9999 + 1) kt (.int a x)).run P w = _
          rw [Instr.checkKey]
          simp [run_underlying hkt]
        split at he
        · rename_i z hf hz
          injection he with he; injection he with e2 e3; subst e2; subst e3
          obtain ⟨i, hi, hzz, hpz⟩ := zeroB_some hz
          obtain ⟨f1, _⟩ := mfind_ok (r := r) (kd := kd) es es'.toList 0 none hf (by simpa using g2) (fun j e hj => by simpa using g3 j e hj)
          have e1 : (execOp ρ' o).run P w = .ok (.value (.tuple #[z, .bool false])) w := by
            simp [execOp, hop, hmb, hk'.int, Instr.lookup, run_underlying hut, getObj, Sem.run, hw, hck, Instr.findKey, run_underlying hkt, f1 rfl, zeroValue, typeInfo, hi, hzz]
          rw [e1]
          exact ⟨r, .pln (by simp [pl, pls, hpz]), Good.refl h⟩
        · rename_i u z hf hz
          injection he with he; injection he with e2 e3; subst e2; subst e3
          obtain ⟨_, f2⟩ := mfind_ok (r := r) (kd := kd) es es'.toList 0 (some u) hf (by simpa using g2) (fun j e hj => by simpa using g3 j e hj)
          obtain ⟨j, u', f3, f4⟩ := f2 u rfl
          have e1 : (execOp ρ' o).run P w = .ok (.value (.tuple #[u', .bool true])) w := by
            simp [execOp, hop, hmb, hk'.int, Instr.lookup, run_underlying hut, getObj, Sem.run, hw, hck, Instr.findKey, run_underlying hkt, f3]
          rw [e1]
          have := (LR.cons f4 (LR.cons (r := r) (.pln (v := .bool true) rfl) LR.nil)).arr
          exact ⟨r, .tu this.1 this.2, Good.refl h⟩
        · cases he
      · cases he
    · cases he
  · rename_i t x hop
    split at he
    · rename_i sx hx hu
      obtain ⟨k, s1, hn, e2⟩ := nb (s := s) he
      simp only [Prod.mk.injEq] at e2
      obtain ⟨rfl, rfl⟩ := e2
      have hx' := hρ x (by simp [hop, Op.operands])
      rw [hx] at hx'
      have e1 : (execOp ρ' o).run P w = .ok (.value (.pointer (some ⟨w.heap.size, 0, none⟩))) (w.alloc (.stringIter sx 0)) := by
        simp [execOp, hop, hx'.str, Instr.range, run_underlying hu]
      rw [e1]
      exact ⟨_, .ptr (upd_self _ _ _), new_ok h hB hn (x := 0) (Push1.alloc w _) rfl⟩
    · cases he
  · rename_i x hop
    split at he
    · rename_i k hk
      split at he
      · rename_i sx pos hg
        have hx' := hρ x (by simp [hop, Op.operands])
        rw [hk] at hx'
        obtain ⟨b, y, hr, e⟩ := hx'.pt
        obtain ⟨b', y', o', hr', hw, rfl⟩ := h.obj _ _ hg
        rw [hr] at hr'; injection hr' with hr'; injection hr' with hr' hr2; subst hr'; subst hr2
        have hlt : b < w.heap.size := (Array.getElem?_eq_some_iff.1 hw).1
        cases hc : Nat.blt pos sx.size with
        | true =>
          rw [hc] at he
          simp only [cond_true, Option.map_eq_some_iff, Prod.mk.injEq] at he
          obtain ⟨s1, hl, rfl, rfl⟩ := he
          have hp := blt_lt hc
          have e1 : (execOp ρ' o).run P w = .ok (.value (.tuple #[.bool true, .int .i64 pos, .int .i32 (Utf8.decode sx pos).1])) { w with heap := w.heap.setIfInBounds b (.stringIter sx (pos + (Utf8.decode sx pos).2)) } := by
            simp [execOp, hop, e, Instr.next, getObj, setObj, Sem.run, hw, hp, goInt]
          rw [e1]
          exact ⟨r, .pln rfl, put_ok h hl hg hr (Set1.obj _ hlt) rfl⟩
        | false =>
          rw [hc] at he
          injection he with he; injection he with e2 e3; subst e2; subst e3
          have hp : ¬ pos < sx.size := fun hh => by
            have : Nat.blt pos sx.size = true := by simp [Nat.blt]; omega
            rw [this] at hc; cases hc
          have e1 : (execOp ρ' o).run P w = .ok (.value (.tuple #[.bool false])) w := by
            simp [execOp, hop, e, Instr.next, getObj, Sem.run, hw, hp]
          rw [e1]
          exact ⟨r, .pln rfl, Good.refl h⟩
      · cases he
    · cases he
  · rename_i c hop; exact absurd hop (hnc c)
  · cases he
end
end Go.Proofs.YtdeghcgakkhbmaaGreat
