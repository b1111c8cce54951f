import Derived.Test.YtmbbedleimajcaaDoorDvW
import Derived.Test.YtmbbedleimajcaaDoorProg
namespace Go.Proofs
open Go Go.Proofs.Dv
@[go_sem] theorem Tryd.sz3 : tsz Tryd.prog 3 = some 1 := by kernel_rfl
@[go_sem] theorem Tryd.agg3 : tagg Tryd.prog 3 = some false := by kernel_rfl
@[go_sem] theorem Tryd.zero3 : tzero Tryd.prog 3 = some [.v (.int .i64 0)] := by kernel_rfl
@[go_sem] theorem Tryd.bytes3 : tbytes Tryd.prog 3 = some 8 := by kernel_rfl
@[go_sem] theorem Tryd.und3 : Tryd.prog.underlying 3 = some (.int .i64) := by kernel_rfl
@[go_sem] theorem Tryd.sz4 : tsz Tryd.prog 4 = some 1 := by kernel_rfl
@[go_sem] theorem Tryd.agg4 : tagg Tryd.prog 4 = some false := by kernel_rfl
@[go_sem] theorem Tryd.zero4 : tzero Tryd.prog 4 = some [.v (.bool false)] := by kernel_rfl
@[go_sem] theorem Tryd.bytes4 : tbytes Tryd.prog 4 = some 1 := by kernel_rfl
@[go_sem] theorem Tryd.bool4 : isBoolT Tryd.prog 4 = true := by kernel_rfl
@[go_sem] theorem Tryd.sz5 : tsz Tryd.prog 5 = some 1 := by kernel_rfl
@[go_sem] theorem Tryd.agg5 : tagg Tryd.prog 5 = some false := by kernel_rfl
@[go_sem] theorem Tryd.zero5 : tzero Tryd.prog 5 = some [.v (.int .u8 0)] := by kernel_rfl
@[go_sem] theorem Tryd.bytes5 : tbytes Tryd.prog 5 = some 1 := by kernel_rfl
@[go_sem] theorem Tryd.und5 : Tryd.prog.underlying 5 = some (.int .u8) := by kernel_rfl
@[go_sem] theorem Tryd.sz9 : tsz Tryd.prog 9 = some 1 := by kernel_rfl
@[go_sem] theorem Tryd.agg9 : tagg Tryd.prog 9 = some false := by kernel_rfl
@[go_sem] theorem Tryd.zero9 : tzero Tryd.prog 9 = some [.v (.string ⟨#[]⟩)] := by kernel_rfl
@[go_sem] theorem Tryd.bytes9 : tbytes Tryd.prog 9 = some 16 := by kernel_rfl
@[go_sem] theorem Tryd.seq9 : seqKind Tryd.prog 9 = some true := by kernel_rfl
@[go_sem] theorem Tryd.und9 : Tryd.prog.underlying 9 = some .string := by kernel_rfl
@[go_sem] theorem Tryd.sz65 : tsz Tryd.prog 65 = some 1 := by kernel_rfl
@[go_sem] theorem Tryd.agg65 : tagg Tryd.prog 65 = some false := by kernel_rfl
@[go_sem] theorem Tryd.zero65 : tzero Tryd.prog 65 = some [.emp] := by kernel_rfl
@[go_sem] theorem Tryd.bytes65 : tbytes Tryd.prog 65 = some 24 := by kernel_rfl
@[go_sem] theorem Tryd.elem65 : selem Tryd.prog 65 = some 5 := by kernel_rfl
@[go_sem] theorem Tryd.seq65 : seqKind Tryd.prog 65 = some false := by kernel_rfl
@[go_sem] theorem Tryd.sz23 : tsz Tryd.prog 23 = some 6 := by kernel_rfl
@[go_sem] theorem Tryd.agg23 : tagg Tryd.prog 23 = some true := by kernel_rfl
@[go_sem] theorem Tryd.zero23 : tzero Tryd.prog 23 = some [.v (.int .i64 0), .v (.int .i64 0), .v (.int .i64 0), .v (.int .i64 0), .v (.int .i64 0), .v (.bool false)] := by kernel_rfl
@[go_sem] theorem Tryd.bytes23 : tbytes Tryd.prog 23 = some 48 := by kernel_rfl
@[go_sem] theorem Tryd.off23x0 : foff Tryd.prog 23 0 = some 0 := by kernel_rfl
@[go_sem] theorem Tryd.off23x1 : foff Tryd.prog 23 1 = some 1 := by kernel_rfl
@[go_sem] theorem Tryd.off23x2 : foff Tryd.prog 23 2 = some 2 := by kernel_rfl
@[go_sem] theorem Tryd.off23x3 : foff Tryd.prog 23 3 = some 3 := by kernel_rfl
@[go_sem] theorem Tryd.off23x4 : foff Tryd.prog 23 4 = some 4 := by kernel_rfl
@[go_sem] theorem Tryd.off23x5 : foff Tryd.prog 23 5 = some 5 := by kernel_rfl
@[go_sem] theorem Tryd.places23 : places Tryd.prog 23 = some [(0, 1), (1, 1), (2, 1), (3, 1), (4, 1), (5, 1)] := by kernel_rfl
@[go_sem] theorem Tryd.sz25 : tsz Tryd.prog 25 = some 6 := by kernel_rfl
@[go_sem] theorem Tryd.agg25 : tagg Tryd.prog 25 = some true := by kernel_rfl
@[go_sem] theorem Tryd.zero25 : tzero Tryd.prog 25 = some [.v (.int .i64 0), .v (.int .i64 0), .v (.int .i64 0), .v (.int .i64 0), .v (.int .i64 0), .v (.bool false)] := by kernel_rfl
@[go_sem] theorem Tryd.bytes25 : tbytes Tryd.prog 25 = some 48 := by kernel_rfl
@[go_sem] theorem Tryd.off25x0 : foff Tryd.prog 25 0 = some 0 := by kernel_rfl
@[go_sem] theorem Tryd.off25x1 : foff Tryd.prog 25 1 = some 1 := by kernel_rfl
@[go_sem] theorem Tryd.off25x2 : foff Tryd.prog 25 2 = some 2 := by kernel_rfl
@[go_sem] theorem Tryd.off25x3 : foff Tryd.prog 25 3 = some 3 := by kernel_rfl
@[go_sem] theorem Tryd.off25x4 : foff Tryd.prog 25 4 = some 4 := by kernel_rfl
@[go_sem] theorem Tryd.off25x5 : foff Tryd.prog 25 5 = some 5 := by kernel_rfl
@[go_sem] theorem Tryd.places25 : places Tryd.prog 25 = some [(0, 1), (1, 1), (2, 1), (3, 1), (4, 1), (5, 1)] := by kernel_rfl
@[go_sem] theorem Tryd.sz29 : tsz Tryd.prog 29 = some 6 := by kernel_rfl
@[go_sem] theorem Tryd.agg29 : tagg Tryd.prog 29 = some true := by kernel_rfl
@[go_sem] theorem Tryd.zero29 : tzero Tryd.prog 29 = some [.v (.int .i64 0), .v (.int .i64 0), .v (.int .i64 0), .v (.int .i64 0), .v (.int .i64 0), .v (.int .i64 0)] := by kernel_rfl
@[go_sem] theorem Tryd.bytes29 : tbytes Tryd.prog 29 = some 48 := by kernel_rfl
@[go_sem] theorem Tryd.off29x0 : foff Tryd.prog 29 0 = some 0 := by kernel_rfl
@[go_sem] theorem Tryd.off29x1 : foff Tryd.prog 29 1 = some 1 := by kernel_rfl
@[go_sem] theorem Tryd.off29x2 : foff Tryd.prog 29 2 = some 2 := by kernel_rfl
@[go_sem] theorem Tryd.off29x3 : foff Tryd.prog 29 3 = some 3 := by kernel_rfl
@[go_sem] theorem Tryd.off29x4 : foff Tryd.prog 29 4 = some 4 := by kernel_rfl
@[go_sem] theorem Tryd.off29x5 : foff Tryd.prog 29 5 = some 5 := by kernel_rfl
@[go_sem] theorem Tryd.places29 : places Tryd.prog 29 = some [(0, 1), (1, 1), (2, 1), (3, 1), (4, 1), (5, 1)] := by kernel_rfl
@[go_sem] theorem Tryd.sz31 : tsz Tryd.prog 31 = some 6 := by kernel_rfl
@[go_sem] theorem Tryd.agg31 : tagg Tryd.prog 31 = some true := by kernel_rfl
@[go_sem] theorem Tryd.zero31 : tzero Tryd.prog 31 = some [.v (.int .i64 0), .v (.int .i64 0), .v (.int .i64 0), .v (.int .i64 0), .v (.int .i64 0), .v (.int .i64 0)] := by kernel_rfl
@[go_sem] theorem Tryd.bytes31 : tbytes Tryd.prog 31 = some 48 := by kernel_rfl
@[go_sem] theorem Tryd.off31x0 : foff Tryd.prog 31 0 = some 0 := by kernel_rfl
@[go_sem] theorem Tryd.off31x1 : foff Tryd.prog 31 1 = some 1 := by kernel_rfl
@[go_sem] theorem Tryd.off31x2 : foff Tryd.prog 31 2 = some 2 := by kernel_rfl
@[go_sem] theorem Tryd.off31x3 : foff Tryd.prog 31 3 = some 3 := by kernel_rfl
@[go_sem] theorem Tryd.off31x4 : foff Tryd.prog 31 4 = some 4 := by kernel_rfl
@[go_sem] theorem Tryd.off31x5 : foff Tryd.prog 31 5 = some 5 := by kernel_rfl
@[go_sem] theorem Tryd.places31 : places Tryd.prog 31 = some [(0, 1), (1, 1), (2, 1), (3, 1), (4, 1), (5, 1)] := by kernel_rfl
@[go_sem] theorem Tryd.sz51 : tsz Tryd.prog 51 = some 1 := by kernel_rfl
@[go_sem] theorem Tryd.agg51 : tagg Tryd.prog 51 = some false := by kernel_rfl
@[go_sem] theorem Tryd.zero51 : tzero Tryd.prog 51 = some [.emp] := by kernel_rfl
@[go_sem] theorem Tryd.bytes51 : tbytes Tryd.prog 51 = some 24 := by kernel_rfl
@[go_sem] theorem Tryd.elem51 : selem Tryd.prog 51 = some 9 := by kernel_rfl
@[go_sem] theorem Tryd.seq51 : seqKind Tryd.prog 51 = some false := by kernel_rfl
end Go.Proofs
